/-
  A node tells of a track.
-/
import Derived.Test.YtfkngpmgcimdbaaGreatM10
set_option linter.unusedVariables false
set_option linter.unusedSimpArgs false
set_option maxRecDepth 100000
set_option maxHeartbeats 20000000
open Go.Proofs.Tryz
namespace Go.Proofs
section
variable {Z Y:Prop}
theorem Q03(h:Z:=by
 obtain⟨rfl,hR⟩:=hR;rw[show jff (s.tl g now fine).D (s.tl g now fine).l (s.T.ev now (s.C 7)) now fine=s.ask g now fine from rfl,qf9] at hR;cases ho2:(s.ask g now fine).o with
 | none=>
  rw[ho2] at hR;obtain rfl:=hR;repeat' (refine Bb ?_;first|refine Q55 ?_|fail)
  have eL:jer s g now fine=[⟨(jez s).by (s.nd g) now,fine⟩]++[x]++[]:=by unfold jer;rw[ho,ho2];rfl
  rw[eL];refine Bb ?_;refine qaz (s.ticked g now fine) g 0 1 2 3 4 [8] qay Q6C Q8I rfl rfl rfl Q6y Q8I rfl rfl re7 Q8I Q8I rfl rfl re2 Q8I rfl rfl re2 Q8I (fun k hk=>by simp at hk;omega) (fun k hk d hd l hl=>?_) Q7H ?_
  ·obtain rfl:k=8:=by simpa using hk
   exact Q32
  refine Bo (κ1,8) ⟨by first|exact hκ|exact hκ1|exact hκ2|(simp only[xt,xQ,x5] at *;omega),?_⟩;refine Ba Q78 ?_;refine Ba Q6N ?_;refine Ba Q6K ?_;refine Ba Q6F ?_;exact Bg
 | some y=>
  rw[ho2] at hR;rcases hR with ⟨hκ1,rfl⟩|⟨κ2,hκ2,rfl⟩
  ·repeat' (refine Bb ?_;first|refine Q55 ?_|fail)
   have eL:jer s g now fine=[⟨(jez s).by (s.nd g) now,fine⟩]++[x]++[y]:=by unfold jer;rw[ho,ho2];rfl
   rw[eL];refine Bb ?_;refine qaz (s.ticked g now fine) g 0 1 2 3 4 [8] qay Q6C Q8I rfl rfl rfl Q6y Q8I rfl rfl re7 Q8I Q8I rfl rfl re2 Q8I rfl rfl re2 Q8I (fun k hk=>by simp at hk;omega) (fun k hk d hd l hl=>?_) Q7H ?_
   ·obtain rfl:k=8:=by simpa using hk
    exact Q2y
   refine Bo (κ1,8) ⟨by first|exact hκ|exact hκ1|exact hκ2|(simp only[xt,xQ,x5] at *;omega),?_⟩;refine Ba Q78 ?_;refine Ba Q6N ?_;refine Ba Q6K ?_;refine Ba Q6F ?_;exact Bg
  ·exact Q16):Z:=h
theorem Q05(h:Z:=by ·exact Q16):Z:=h
theorem Q0c(h:Z:=by
 refine Bl (jhu (D:=(s.tl g now fine).D) (T:=s.T.ev now (s.C 7)) (now:=now) (fine:=fine) (n:=s.bn) (l:=(s.tl g now fine).l) (S:=[⟨(jez s).by (s.nd g) now,fine⟩]) (cap:=κ) (i0:=5) (i1:=0) (i2:=1) (i3:=2) (i4:=3) (i5:=4) (i6:=6) (K:=9) (qea ok.E) Q8e tl1 tq tb hT Q6O) fun v ms hR=>?_
 obtain⟨rfl,hR⟩:=hR;rw[show jff (s.tl g now fine).D (s.tl g now fine).l (s.T.ev now (s.C 7)) now fine=s.ask g now fine from rfl,qf9] at hR;cases ho2:(s.ask g now fine).o with
 | none=>
  rw[ho2] at hR;obtain rfl:=hR;repeat' (refine Bb ?_;first|refine Q55 ?_|fail)
  have eL:jer s g now fine=[⟨(jez s).by (s.nd g) now,fine⟩]++[]:=by unfold jer;rw[ho,ho2];rfl
  rw[eL];refine Bb ?_;refine qaz (s.ticked g now fine) g 0 1 2 3 4 [6] qay Q6C Q8I rfl rfl rfl Q6y Q8I rfl rfl re7 Q8I Q8I rfl rfl re2 Q8I rfl rfl re2 Q8I (fun k hk=>by simp at hk;omega) (fun k hk d hd l hl=>?_) Q6Y ?_
  ·obtain rfl:k=6:=by simpa using hk
   exact Q4f
  refine Bo (κ,6) ⟨by first|exact hκ|exact hκ1|exact hκ2|(simp only[xt,xQ,x5] at *;omega),?_⟩;refine Ba Q78 ?_;refine Ba Q6N ?_;refine Ba Q6K ?_;refine Ba Q6F ?_;exact Bg
 | some y=>
  rw[ho2] at hR;rcases hR with ⟨hκ1,rfl⟩|⟨κ2,hκ2,rfl⟩
  ·repeat' (refine Bb ?_;first|refine Q55 ?_|fail)
   have eL:jer s g now fine=[⟨(jez s).by (s.nd g) now,fine⟩]++[y]:=by unfold jer;rw[ho,ho2];rfl
   rw[eL];refine Bb ?_;refine qaz (s.ticked g now fine) g 0 1 2 3 4 [6] qay Q6C Q8I rfl rfl rfl Q6y Q8I rfl rfl re7 Q8I Q8I rfl rfl re2 Q8I rfl rfl re2 Q8I (fun k hk=>by simp at hk;omega) (fun k hk d hd l hl=>?_) Q6Y ?_
   ·obtain rfl:k=6:=by simpa using hk
    exact Q3b
   refine Bo (κ,6) ⟨by first|exact hκ|exact hκ1|exact hκ2|(simp only[xt,xQ,x5] at *;omega),?_⟩;refine Ba Q78 ?_;refine Ba Q6N ?_;refine Ba Q6K ?_;refine Ba Q6F ?_;exact Bg
  ·exact Q15):Z:=h
theorem Q0d(h:Z:=by
 refine Bl (jhu (D:=(s.tl g now fine).D) (T:=s.T.ev now (s.C 7)) (now:=now) (fine:=fine) (n:=s.bn) (l:=(s.tl g now fine).l) (S:=[⟨(jez s).by (s.nd g) now,fine⟩]) (cap:=κ) (i0:=6) (i1:=0) (i2:=1) (i3:=2) (i4:=3) (i5:=4) (i6:=7) (K:=9) (qea ok.E) Q8e tl1 tq tb hT Q6O) fun v ms hR=>?_
 obtain⟨rfl,hR⟩:=hR;rw[show jff (s.tl g now fine).D (s.tl g now fine).l (s.T.ev now (s.C 7)) now fine=s.ask g now fine from rfl,qf9] at hR;cases ho2:(s.ask g now fine).o with
 | none=>
  rw[ho2] at hR;obtain rfl:=hR;repeat' (refine Bb ?_;first|refine Q55 ?_|fail)
  have eL:jer s g now fine=[⟨(jez s).by (s.nd g) now,fine⟩]++[]:=by unfold jer;rw[ho,ho2];rfl
  rw[eL];refine Bb ?_;refine qaz (s.ticked g now fine) g 0 1 2 3 4 [7] qay Q6C Q8I rfl rfl rfl Q6y Q8I rfl rfl re7 Q8I Q8I rfl rfl re2 Q8I rfl rfl re2 Q8I (fun k hk=>by simp at hk;omega) (fun k hk d hd l hl=>?_) Q7p ?_
  ·obtain rfl:k=7:=by simpa using hk
   exact Q4f
  refine Bo (κ,7) ⟨by first|exact hκ|exact hκ1|exact hκ2|(simp only[xt,xQ,x5] at *;omega),?_⟩;refine Ba Q78 ?_;refine Ba Q6N ?_;refine Ba Q6K ?_;refine Ba Q6F ?_;exact Bg
 | some y=>
  rw[ho2] at hR;rcases hR with ⟨hκ1,rfl⟩|⟨κ2,hκ2,rfl⟩
  ·repeat' (refine Bb ?_;first|refine Q55 ?_|fail)
   have eL:jer s g now fine=[⟨(jez s).by (s.nd g) now,fine⟩]++[y]:=by unfold jer;rw[ho,ho2];rfl
   rw[eL];refine Bb ?_;refine qaz (s.ticked g now fine) g 0 1 2 3 4 [7] qay Q6C Q8I rfl rfl rfl Q6y Q8I rfl rfl re7 Q8I Q8I rfl rfl re2 Q8I rfl rfl re2 Q8I (fun k hk=>by simp at hk;omega) (fun k hk d hd l hl=>?_) Q7p ?_
   ·obtain rfl:k=7:=by simpa using hk
    exact Q3b
   refine Bo (κ,7) ⟨by first|exact hκ|exact hκ1|exact hκ2|(simp only[xt,xQ,x5] at *;omega),?_⟩;refine Ba Q78 ?_;refine Ba Q6N ?_;refine Ba Q6K ?_;refine Ba Q6F ?_;exact Bg
  ·exact Q15):Z:=h
theorem Q0x(h:Z:=by
 rw[ho2] at hR;obtain rfl:=hR;repeat' (refine Bb ?_;first|refine Q55 ?_|fail)
 have eL:jer s g now fine=[⟨(jez s).by (s.nd g) now,fine⟩]++[x]++[]:=by unfold jer;rw[ho,ho2];rfl
 rw[eL];refine Bb ?_;refine qaz (s.ticked g now fine) g 0 1 2 3 4 [6] qay Q6C Q8I rfl rfl rfl Q6y Q8I rfl rfl re7 Q8I Q8I rfl rfl re2 Q8I rfl rfl re2 Q8I (fun k hk=>by simp at hk;omega) (fun k hk d hd l hl=>?_) Q6Y ?_
 ·obtain rfl:k=6:=by simpa using hk
  exact Q32
 refine Bo (κ,6) ⟨by first|exact hκ|exact hκ1|exact hκ2|(simp only[xt,xQ,x5] at *;omega),?_⟩;refine Ba Q78 ?_;refine Ba Q6N ?_;refine Ba Q6K ?_;refine Ba Q6F ?_;exact Bg):Z:=h
theorem Q0y(h:Z:=by
 rw[ho2] at hR;obtain rfl:=hR;repeat' (refine Bb ?_;first|refine Q55 ?_|fail)
 have eL:jer s g now fine=[⟨(jez s).by (s.nd g) now,fine⟩]++[x]++[]:=by unfold jer;rw[ho,ho2];rfl
 rw[eL];refine Bb ?_;refine qaz (s.ticked g now fine) g 0 1 2 3 4 [7] qay Q6C Q8I rfl rfl rfl Q6y Q8I rfl rfl re7 Q8I Q8I rfl rfl re2 Q8I rfl rfl re2 Q8I (fun k hk=>by simp at hk;omega) (fun k hk d hd l hl=>?_) Q7p ?_
 ·obtain rfl:k=7:=by simpa using hk
  exact Q32
 refine Bo (κ,7) ⟨by first|exact hκ|exact hκ1|exact hκ2|(simp only[xt,xQ,x5] at *;omega),?_⟩;refine Ba Q78 ?_;refine Ba Q6N ?_;refine Ba Q6K ?_;refine Ba Q6F ?_;exact Bg):Z:=h
theorem Q0A(k:Y)(h:Wr Y->Z:=by
 intro kQ;repeat' (refine Bb ?_;first|refine Q55 ?_|refine Q67 ?_|refine Q5d ?_|fail)
 refine Bb ?_;exact kQ.o):Z:=h ⟨k⟩
theorem Q0B(h:Z:=by
 repeat' (refine Bb ?_;first|refine Q55 ?_|fail)
 have eL:jer s g now fine=[⟨(jez s).by (s.nd g) now,fine⟩]++[x]++[y]:=by unfold jer;rw[ho,ho2];rfl
 rw[eL];refine Bb ?_;refine qaz (s.ticked g now fine) g 0 1 2 3 4 [6] qay Q6C Q8I rfl rfl rfl Q6y Q8I rfl rfl re7 Q8I Q8I rfl rfl re2 Q8I rfl rfl re2 Q8I (fun k hk=>by simp at hk;omega) (fun k hk d hd l hl=>?_) Q6Y ?_
 ·obtain rfl:k=6:=by simpa using hk
  exact Q2y
 refine Bo (κ,6) ⟨by first|exact hκ|exact hκ1|exact hκ2|(simp only[xt,xQ,x5] at *;omega),?_⟩;refine Ba Q78 ?_;refine Ba Q6N ?_;refine Ba Q6K ?_;refine Ba Q6F ?_;exact Bg):Z:=h
theorem Q0C(h:Z:=by
 repeat' (refine Bb ?_;first|refine Q55 ?_|fail)
 have eL:jer s g now fine=[⟨(jez s).by (s.nd g) now,fine⟩]++[x]++[y]:=by unfold jer;rw[ho,ho2];rfl
 rw[eL];refine Bb ?_;refine qaz (s.ticked g now fine) g 0 1 2 3 4 [7] qay Q6C Q8I rfl rfl rfl Q6y Q8I rfl rfl re7 Q8I Q8I rfl rfl re2 Q8I rfl rfl re2 Q8I (fun k hk=>by simp at hk;omega) (fun k hk d hd l hl=>?_) Q7p ?_
 ·obtain rfl:k=7:=by simpa using hk
  exact Q2y
 refine Bo (κ,7) ⟨by first|exact hκ|exact hκ1|exact hκ2|(simp only[xt,xQ,x5] at *;omega),?_⟩;refine Ba Q78 ?_;refine Ba Q6N ?_;refine Ba Q6K ?_;refine Ba Q6F ?_;exact Bg):Z:=h
theorem Q0I(h:Z:=by
 refine Br (α:=EvS) (.yes (r+1) cap') [(0,0),(1,1),(2,2),(3,3),(4,4),(5,5),(6,6),(7,7),(11,8)] (And.intro ⟨hlt,by show 0<(evL T.E (fun _=>true) (r+1)).length;rw[e1,xt];exact zw _ _,by show(evL T.E (fun _=>true) (r+1)).length<=cap';rw[e1,xt];exact hcap⟩ Q8Z) ?_;repeat' (refine Bb ?_;first|refine Q55 ?_|refine Ba Q6H ?_|refine Ba Q8h ?_|refine Ba (qki e1 hcap r3) ?_|exact Bg|refine Q5h ?_|fail)):Z:=h
theorem Q0L(h:Z:=by
 refine Br (α:=EvS) (.yes (r+1) c) [(0,0),(1,1),(2,2),(3,3),(4,4),(5,5),(6,6),(7,7),(8,8)] (And.intro ⟨hlt,by show 0<(evL T.E (fun _=>true) (r+1)).length;rw[e1,xt];exact zw _ _,by show(evL T.E (fun _=>true) (r+1)).length<=c;rw[e1,xt];exact hr⟩ Q8Z) ?_;repeat' (refine Bb ?_;first|refine Q55 ?_|refine Ba Q6H ?_|refine Ba Q8h ?_|refine Ba (qor e1) ?_|exact Bg|refine Q5h ?_|fail)):Z:=h
theorem Q0N(h:Z:=by
 rw[r2] at e1;refine Br (α:=EvS) (.yes (r+1) cap') [(0,0),(1,1),(2,2),(3,3),(4,4),(5,5),(6,6),(7,7),(10,8)] (And.intro ⟨hlt,by show 0<(evL T.E (fun _=>true) (r+1)).length;rw[e1];exact nlr _,by show(evL T.E (fun _=>true) (r+1)).length<=cap';rw[e1];exact hcap⟩ Q8Z) ?_;repeat' (refine Bb ?_;first|refine Q55 ?_|refine Ba Q6H ?_|refine Ba (qdo (by show(evL T.E (fun _=>true) (r+1)).length=_;rw[e1];rfl) Q8I) ?_|refine Ba (qi4 e1 hcap) ?_|exact Bg|refine Q5h ?_|fail)):Z:=h
theorem Q12(h:Z:=by
 obtain rfl:=hR;refine Q01 ?_;refine Bl (qvk (D:=(s.nd g).up) (T:=s.T.ev now (s.C 7)) (now:=now) (fine:=fine) (n:=s.bn) (l:=s.bn-1) (S:=[⟨(jez s).by (s.nd g) now,fine⟩]) (cap:=κ) (i0:=5) (i1:=0) (i2:=1) (i3:=2) (i4:=3) (i5:=4) (i6:=6) (K:=8) (qea ok.E) Q8e Q8G (by rw[tks];omega) okb Q6O) fun v ms hR=>?_
 obtain⟨rfl,hR⟩:=hR;rw[show jec (s.nd g).up (s.bn-1) (s.T.ev now (s.C 7)) now fine=s.tl g now fine from rfl] at hR;cases ho:(s.tl g now fine).o with
 | none=>
  rw[ho] at hR;obtain rfl:=hR;refine Q01 ?_;exact Q0c
 | some x=>
  rw[ho] at hR;rcases hR with ⟨hκ0,rfl⟩|⟨κ1,hκ1,rfl⟩
  ·refine Q01 ?_;refine Bl (jhu (D:=(s.tl g now fine).D) (T:=s.T.ev now (s.C 7)) (now:=now) (fine:=fine) (n:=s.bn) (l:=(s.tl g now fine).l) (S:=[⟨(jez s).by (s.nd g) now,fine⟩]++[x]) (cap:=κ) (i0:=5) (i1:=0) (i2:=1) (i3:=2) (i4:=3) (i5:=4) (i6:=6) (K:=9) (qea ok.E) ⟨by exact hκ0,xO rfl⟩ tl1 tq tb hT Q6O) fun v ms hR=>?_
   obtain⟨rfl,hR⟩:=hR;rw[show jff (s.tl g now fine).D (s.tl g now fine).l (s.T.ev now (s.C 7)) now fine=s.ask g now fine from rfl,qf9] at hR;cases ho2:(s.ask g now fine).o with
   | none=>
    exact Q0x
   | some y=>
    rw[ho2] at hR;rcases hR with ⟨hκ1,rfl⟩|⟨κ2,hκ2,rfl⟩
    ·exact Q0B
    exact Q05
  ·refine Q01 ?_;refine Bl (jhu (D:=(s.tl g now fine).D) (T:=s.T.ev now (s.C 7)) (now:=now) (fine:=fine) (n:=s.bn) (l:=(s.tl g now fine).l) (S:=[⟨(jez s).by (s.nd g) now,fine⟩]++[x]) (cap:=κ1) (i0:=5) (i1:=0) (i2:=1) (i3:=2) (i4:=3) (i5:=4) (i6:=8) (K:=9) (qea ok.E) ⟨by exact hκ1,xO rfl⟩ tl1 tq tb hT Q6O) fun v ms hR=>?_
   exact Q03):Z:=h
theorem Q13(h:Z:=by
 obtain rfl:=hR;refine Q01 ?_;refine Bl (qvk (D:=(s.nd g).up) (T:=s.T.ev now (s.C 7)) (now:=now) (fine:=fine) (n:=s.bn) (l:=s.bn-1) (S:=[⟨(jez s).by (s.nd g) now,fine⟩]) (cap:=κ) (i0:=6) (i1:=0) (i2:=1) (i3:=2) (i4:=3) (i5:=4) (i6:=7) (K:=8) (qea ok.E) Q8e Q8G (by rw[tks];omega) okb Q6O) fun v ms hR=>?_
 obtain⟨rfl,hR⟩:=hR;rw[show jec (s.nd g).up (s.bn-1) (s.T.ev now (s.C 7)) now fine=s.tl g now fine from rfl] at hR;cases ho:(s.tl g now fine).o with
 | none=>
  rw[ho] at hR;obtain rfl:=hR;refine Q01 ?_;exact Q0d
 | some x=>
  rw[ho] at hR;rcases hR with ⟨hκ0,rfl⟩|⟨κ1,hκ1,rfl⟩
  ·refine Q01 ?_;refine Bl (jhu (D:=(s.tl g now fine).D) (T:=s.T.ev now (s.C 7)) (now:=now) (fine:=fine) (n:=s.bn) (l:=(s.tl g now fine).l) (S:=[⟨(jez s).by (s.nd g) now,fine⟩]++[x]) (cap:=κ) (i0:=6) (i1:=0) (i2:=1) (i3:=2) (i4:=3) (i5:=4) (i6:=7) (K:=9) (qea ok.E) ⟨by exact hκ0,xO rfl⟩ tl1 tq tb hT Q6O) fun v ms hR=>?_
   obtain⟨rfl,hR⟩:=hR;rw[show jff (s.tl g now fine).D (s.tl g now fine).l (s.T.ev now (s.C 7)) now fine=s.ask g now fine from rfl,qf9] at hR;cases ho2:(s.ask g now fine).o with
   | none=>
    exact Q0y
   | some y=>
    rw[ho2] at hR;rcases hR with ⟨hκ1,rfl⟩|⟨κ2,hκ2,rfl⟩
    ·exact Q0C
    exact Q05
  ·refine Q01 ?_;refine Bl (jhu (D:=(s.tl g now fine).D) (T:=s.T.ev now (s.C 7)) (now:=now) (fine:=fine) (n:=s.bn) (l:=(s.tl g now fine).l) (S:=[⟨(jez s).by (s.nd g) now,fine⟩]++[x]) (cap:=κ1) (i0:=6) (i1:=0) (i2:=1) (i3:=2) (i4:=3) (i5:=4) (i6:=8) (K:=9) (qea ok.E) ⟨by exact hκ1,xO rfl⟩ tl1 tq tb hT Q6O) fun v ms hR=>?_
   exact Q03):Z:=h
theorem Q15(h:Z:=by
 repeat' (refine Bb ?_;first|refine Q55 ?_|fail)
 have eL:jer s g now fine=[⟨(jez s).by (s.nd g) now,fine⟩]++[y]:=by unfold jer;rw[ho,ho2];rfl
 rw[eL];refine Bb ?_;refine qaz (s.ticked g now fine) g 0 1 2 3 4 [9] qay Q6C Q8I rfl rfl rfl Q6y Q8I rfl rfl re7 Q8I Q8I rfl rfl re2 Q8I rfl rfl re2 Q8I (fun k hk=>by simp at hk;omega) (fun k hk d hd l hl=>?_) Q8D ?_
 ·obtain rfl:k=9:=by simpa using hk
  exact Q3b
 refine Bo (κ2,9) ⟨by first|exact hκ|exact hκ1|exact hκ2|(simp only[xt,xQ,x5] at *;omega),?_⟩;refine Ba Q78 ?_;refine Ba Q6N ?_;refine Ba Q6K ?_;refine Ba Q6F ?_;exact Bg):Z:=h
theorem Q16(h:Z:=by
 repeat' (refine Bb ?_;first|refine Q55 ?_|fail)
 have eL:jer s g now fine=[⟨(jez s).by (s.nd g) now,fine⟩]++[x]++[y]:=by unfold jer;rw[ho,ho2];rfl
 rw[eL];refine Bb ?_;refine qaz (s.ticked g now fine) g 0 1 2 3 4 [9] qay Q6C Q8I rfl rfl rfl Q6y Q8I rfl rfl re7 Q8I Q8I rfl rfl re2 Q8I rfl rfl re2 Q8I (fun k hk=>by simp at hk;omega) (fun k hk d hd l hl=>?_) Q8D ?_
 ·obtain rfl:k=9:=by simpa using hk
  exact Q2y
 refine Bo (κ2,9) ⟨by first|exact hκ|exact hκ1|exact hκ2|(simp only[xt,xQ,x5] at *;omega),?_⟩;refine Ba Q78 ?_;refine Ba Q6N ?_;refine Ba Q6K ?_;refine Ba Q6F ?_;exact Bg):Z:=h
theorem Q18(h:Z:=by
 cases s with
 | no r=>
  obtain⟨r1,r2⟩:=hs;have hlt:r<T.E.length:=hlt;have r2:evL T.E (fun _=>true) r=[]:=r2;have e1:evL T.E (fun _=>true) (r+1)=evL T.E (fun _=>true) r++[(entT T.E r).node]:=if_pos rfl;refine Q0X ?_;refine Q01 ?_;refine qfu (.agg #[xc (entT T.E r).node]) Q7z Q8H Q8H Q8H fun cap' hcap=>?_
  refine Q01 ?_;exact Q0N
 | yes r c=>
  obtain⟨r1,r2,r3⟩:=hs;have hlt:r<T.E.length:=hlt;have r2:0<(evL T.E (fun _=>true) r).length:=r2;have r3:(evL T.E (fun _=>true) r).length<=c:=r3;have r4:=qi3 T.E (fun _=>true) r;have e1:evL T.E (fun _=>true) (r+1)=evL T.E (fun _=>true) r++[(entT T.E r).node]:=if_pos rfl;refine Q0X ?_;refine Q01 ?_;refine qk8 (.agg #[xc (entT T.E r).node]) Q7z Q8I (by show _*1<=c*1;omega) Q8G Qaf (riC true c (setri (fun i=>(evL T.E (fun _=>true) r).getD i 0) (evL T.E (fun _=>true) r).length (entT T.E r).node)) (fun h=>jkp Q8G rfl) (fun hr=>?_) (fun hg2 cap' hcap=>?_)
  ·refine Q01 ?_;exact Q0L
  ·refine Q01 ?_;exact Q0I):Z:=h
theorem Q1l(k:Y)(h:Wr Y->Z:=by
 intro kQ;repeat' (refine Bb ?_;first|refine Q57 ?_|fail)
 refine Bb ?_;refine Bx ?_;refine Bb ?_;refine Bz [0,1,2,3,4,5,6,7,8,9,10] [(11,[])] Q8O ?_;repeat' (refine Bb ?_;first|refine Q55 ?_|refine Q5w ?_|fail)
 refine Bb ?_;exact kQ.o):Z:=h ⟨k⟩
theorem Q1o(h:Z:=by repeat' (refine Bb ?_;first|refine Q55 ?_|exact Bg|refine Q5h ?_|fail)):Z:=h
theorem Q1L(h:Z:=by
 refine Q3D ?_;refine Ba ⟨⟨_,e0,id,nlr _,lt4 (.ptr Q8I) (.plain rfl) (.plain rfl) (.slice Q8I)⟩,Q7F,⟨_,e3,id,nlr _,nzj⟩,⟨_,e4,id,nlr _,re2⟩,qav e6,xb⟩ ?_;refine Ba xb ?_;refine Ba ⟨Q8u,xb⟩ ?_;exact Bg):Z:=h
theorem Q2y(h:Z:=by
 obtain rfl:ouR ([⟨(jez s).by (s.nd g) now,fine⟩]++[x]++[y]) _=d:=by simpa using hd
 exact qa1 hl):Z:=h
theorem Q2T(h:Z:=by
 cases s with
 | no r=>
  obtain⟨r1,r2⟩:=hs;have hlt:¬ r<T.E.length:=hlt;have:=qo0 T.E r;rw[show evL T.E (fun _=>true) r=[] from r2] at this;have:0=r:=this;omega
 | yes r c=>exact⟨r,c,rfl⟩):Z:=h
theorem Q2V(h:Z:=by rw[hE0] at hE;exact absurd hE.1 Q8H):Z:=h
theorem Q32(h:Z:=by
 obtain rfl:ouR ([⟨(jez s).by (s.nd g) now,fine⟩]++[x]++[]) _=d:=by simpa using hd
 exact qa1 hl):Z:=h
theorem Q3b(h:Z:=by
 obtain rfl:ouR ([⟨(jez s).by (s.nd g) now,fine⟩]++[y]) _=d:=by simpa using hd
 exact qa1 hl):Z:=h
theorem Q4f(h:Z:=by
 obtain rfl:ouR ([⟨(jez s).by (s.nd g) now,fine⟩]++[]) _=d:=by simpa using hd
 exact qa1 hl):Z:=h
theorem Q4U(h:Z:=by
 by_cases h4:l=0
 ·rw[if_pos h4,if_pos h4];rfl
 rw[if_neg h4,if_neg h4];rfl):Z:=h
theorem Q5h(k:Y)(h:Wr Y->Z:=by intro kQ;(first|refine Ba (.plain Q8I) ?_|refine Ba (.one (.ptr rfl)) ?_|refine Ba (.one (.slice rfl)) ?_|refine Ba qdk ?_|refine Ba qg0 ?_|refine Ba qgu ?_|refine Ba ⟨id,nlr _,lt4 (.ptr Q8I) (.plain rfl) (.plain rfl) (.slice Q8I)⟩ ?_|refine Ba ⟨id,nlr _,jgl Q8I Q8I Q8I Q8I⟩ ?_|refine Ba ⟨id,nlr _,re2⟩ ?_|refine Ba qg1 ?_|fail);exact kQ.o):Z:=h ⟨k⟩
theorem Q5I(k:Y)(h:Wr Y->Z:=by intro kQ;(first|refine Be (by rw[q.valid];rfl) ?_|refine Bc (jq8 q.b4.fx q.b4.fy q.b4.fa q.b4.fb q.b4.fd (FA far) 0 _) ?_|refine Be (by rw[xi q.holds];rfl) ?_|refine Bf (by rw[hv];rfl) ?_|refine Be (by rw[hv];rfl) ?_|refine Bc (qd1 _ _ _ _ _ _) ?_|refine Bf (by rw[xh];exact q.less hv) ?_|refine Bc (q0l _) ?_|fail);exact kQ.o):Z:=h ⟨k⟩
theorem Q66(k:Y)(h:Wr Y->Z:=by intro kQ;(first|refine Be Q8I ?_|refine Bm 0 1 rfl Q8H ?_|refine Bn _ (qvl q.r3 rfl Q8G Q8I) ?_|refine Bn _ (qvl q.f4 rfl Q8G Q8I) ?_|refine Be (ni q.kr) ?_|refine Be (ni q.kf) ?_|fail);exact kQ.o):Z:=h ⟨k⟩
theorem Q6f(k:Y)(h:Wr Y->Z:=by intro kQ;(first|refine Bc (qos 3 5 0 0 0 7 _) ?_|refine Bc (qjy 0 0 (RA r) _ Q8H Q8G) ?_|refine Bc (qjy (FA far) 0 (SA s) _ (qvm _ Q8G) Q8G) ?_|fail);exact kQ.o):Z:=h ⟨k⟩
theorem Q6r(k:Y)(h:Wr Y->Z:=by intro kQ;(first|refine Bc (qlt C22 hC 0 0 Q8H ⟨by decide,by decide⟩ 0 0 (RA r*RA r) 0 (RA r*RA r) mA hoA 16 _ Q8I) ?_|fail);exact kQ.o):Z:=h ⟨k⟩
theorem Q6y(h:Z:=by first|exact jgl (D:=(s.ticked g now fine).nd g) (f:=1) (t:=2) (b:=3) (m:=4) (f':=1) (t':=2) (b':=3) (m':=4) Q8I Q8I Q8I Q8I|fail):Z:=h
theorem Q6O(h:Z:=by first|exact ⟨by rfl,by rfl,by rfl,by rfl,by rfl,by rfl,by rfl,by rfl,by decide⟩|fail):Z:=h
theorem Q70(h:Z:=by first|exact fun h₂ hh=>jiv T hE.2 3 7 h₂ ((hh 3 Q8R).trans rfl) ((hh 7 Q8R).trans rfl)|fail):Z:=h
theorem Q7i(h:Z:=by first|exact qm5 5 Q8I rfl (qoy noW [] q.x (jej C22 0 0 true 0 0 (RA r*RA r) 0 (RA r*RA r)) q.a1 κ1 hκ1 (FA far) 1 20000 q.ox q.ha0 q.c1  q.h1 16 18 0 5 19 _ Q8I Q8I Q8I Q8I Q8I Q8H) (fun v ms hR=>by obtain⟨B1,rfl,rfl⟩:=hR;rfl)|fail):Z:=h
theorem Q7p(h:Z:=by first|exact fun ρ ρ' ha=>by have:=ha 7 ⟨_,rfl⟩;simp[den,den2,den1,den0,jeu,this]|fail):Z:=h
theorem Q7D(h:Z:=by first|exact q1i noW B3 q.r3 q.a3 q.a4 κ5 hκ5 (FA far) 2 (n6 (WA w)) q.or3 q.ha3 q.c4 q.f4 q.h4 16 23 0 5 24 _ Q8I Q8I Q8I Q8I Q8I Q8H|fail):Z:=h
theorem Q7F(h:Z:=by first|exact ⟨c,e1,fun _=>hle.1 rfl,hle.2.1,qs5 (D:=D2) (f:=i2) (t:=i3) (b:=i4) (m:=i5) (f':=2) (t':=3) (b':=4) (m':=5) hle Q8I Q8I Q8I Q8I⟩|fail):Z:=h
theorem Q7I(h:Z:=by first|exact q1l D.asked (evL T.E (fun _=>true) T.E.length) c _ (q1n r3) (by show _<=c*1;omega) (by have:=qi3 T.E (fun _=>true) T.E.length;omega) 8 _ Q8I|fail):Z:=h
theorem Q7J(h:Z:=by first|exact qrm T.E ce D.told hE hce 7 _ Q8I|fail):Z:=h
theorem Q7U(h:Z:=by first|exact fun h₂ hh=>joy D.g D.S m hm64 fine (D.boot*65536+D.seq) 1 11 ((hh 1 Q8R).trans rfl) ((hh 11 Q8R).trans rfl)|fail):Z:=h
theorem Q80(h:Z:=by first|exact jgl (D:=s.nd g) (f:=1) (t:=2) (b:=3) (m:=4) (f':=1) (t':=2) (b':=3) (m':=4) Q8I Q8I Q8I Q8I|fail):Z:=h
theorem Q8e(h:Z:=by first|exact ⟨hκ,xO rfl⟩|fail):Z:=h
theorem Q8f(h:Z:=by first|exact ⟨.inl rfl,.inr ⟨rfl,rfl⟩,.inl rfl,.inr ⟨rfl,rfl⟩,.inl rfl,.inl rfl,.inl rfl,xb⟩|fail):Z:=h
theorem Q8h(h:Z:=by first|exact qdo (by show(evL T.E (fun _=>true) (r+1)).length=_;rw[e1,xt];rfl) Q8I|fail):Z:=h
theorem Q8i(h:Z:=by first|exact qoz D (jdz D T).1 2 3 4 5 rfl|fail):Z:=h
theorem Q8u(h:Z:=by first|exact ⟨.inl rfl,hx,.inl rfl,.inr ⟨_,e3,rfl⟩,.inl rfl,.inl rfl,.inl rfl,xb⟩|fail):Z:=h
theorem Q8D(h:Z:=by first|exact fun ρ ρ' ha=>by have:=ha 9 ⟨_,rfl⟩;simp[den,den2,den1,den0,jeu,this]|fail):Z:=h
theorem Q8E(h:Z:=by first|exact fun v ms hR=>by obtain⟨rfl,⟨hκ,rfl⟩|⟨κ,hκ,rfl⟩⟩:=hR<;>rfl|fail):Z:=h
theorem Q9v(h:Z:=by show 0<=s.seq/\s.seq<65535;omega):Z:=h
theorem Q9L(h:Z:=by rw[show(jeq D.asked (evL T.E (fun _=>true) T.E.length)).2=true from hk];rfl):Z:=h
end
end Go.Proofs

namespace Go.Proofs.YtfkngpmgcimdbaaGreat
open Go Go.RowKit Sx
def NdS.ta (D:NdS) (told asked seq:Int) (S:Nat->Ses):NdS:=⟨D.C,D.id,D.boot,D.g,S,seq,told,asked,D.bad⟩
def Tbl.get (T:Tbl) (k:Int):Ent:=(dGet T.E k).getD Ent.zero
theorem jjc (T:Tbl) (k:Int) (i:Nat) (h:Hp) (hi:h[i]?=some (some (tblC T))):qaf prog 73 [xd i,xc k] h (.tuple ⟨[entV (T.get k),.bool (dGet T.E k).isSome]⟩) [(i,tblC T)] []:=by
 unfold Tbl.get;cases hd:dGet T.E k with
 | some e=>exact jka T k e hd i h hi
 | none=>exact jkb T k hd i h hi
def jms (k:Int) (e:Ent):Frm:=⟨6,0,0,0,0,0,0,0,k,e.when_,e.x,e.y,e.a,e.b,e.d⟩
def jdz (D:NdS) (T:Tbl):Int×Bool:=jeq D.told (jht T.E (·.has))
variable {P:Program} {g:FuncId} {vs:List Value} {h:Hp} {R:Value->Mz->Prop} {c:Chunk}
theorem qkn (i:Nat) (d:Chunk) (hi:h[i]?=some (some c)) (hle:ChunkLe d c) (hR:∀ v ms,R v ms->modH (h.set i (some d)) ms=modH h ms) (hc:CallAll P g vs (h.set i (some d)) R):CallAll P g vs h R:=fun X ρ w xs H hx=>by
 have H':=H.say hi hle.1 hle.2.1 hle.2.2.1 hle.2.2.2;have hf:∀ j,Sx.Fil (h.set i (some d)) j↔Sx.Fil h j:=fun j=>by
  have hl:=(xe.1 hi).1;unfold Sx.Fil;by_cases e:i=j
  ·subst e;rw[xx hl];exact⟨fun _=>⟨c,hi⟩,fun _=>⟨d,rfl⟩⟩
  ·rw[xu e]
 have hF:Sx.Fil (h.set i (some d))=Sx.Fil h:=funext fun j=>propext (hf j)
 have hx':All2 (Den (Sx.Fil (h.set i (some d))) ρ) vs xs:=by rw[hF];exact hx
 rcases hc X ρ w xs H' hx' with ⟨x,w',h1,v,ms,ρ',h2,h3,h4,h5⟩|⟨h1,h2⟩
 ·exact .inl ⟨x,w',h1,v,ms,ρ',h2,by rw[<-hF];exact h3,by rw[<-hR v ms h2];exact h4,by rw[<-hR v ms h2];exact h5⟩
 ·refine .inr ⟨h1,h2.mono ?_⟩;rintro e w' ⟨x,he,v,ms,ρ',h2,h3,h4,h5⟩;exact⟨x,he,v,ms,ρ',h2,by rw[<-hF];exact h3,by rw[<-hR v ms h2];exact h4,by rw[<-hR v ms h2];exact h5⟩
theorem qoz (D:NdS) (k:Int) (f t b m:Nat) {x:Ext} (hx:x=jd8 jem 64 D.g D.S):ChunkLe (ndC (D.ta k D.asked D.seq D.S) f t b m) (@Chunk.mk x true 85 ((82,1,xc k)::(ndC D f t b m).ps)):=
 ⟨fun h=>h,nlr _,fun j hj=>by
  have hj:j<85:=hj;by_cases h:j<79
  ·have e1:∀ (a:Value) r,qa3 ((79,6,a)::r) j=qa3 r j:=fun a r=>by rw[qam,if_neg Q8G]
   have e2:∀ (a:Value) r,qa3 ((82,1,a)::r) j=qa3 r j:=fun a r=>by rw[qam,if_neg Q8G]
   exact Q4r
  ·obtain⟨i,rfl⟩:∃ i,j=79+i:=⟨j-79,by omega⟩;have h6:i<6:=by omega
   match i,h6 with
   | 0,_=>exact Eq.trans (b:=xd b) rfl rfl
   | 1,_=>exact Eq.trans (b:=xd m) rfl rfl
   | 2,_=>exact Eq.trans (b:=.int .i64 D.seq) rfl rfl
   | 3,_=>exact Eq.trans (b:=.int .i64 k) rfl rfl
   | 4,_=>exact Eq.trans (b:=.int .i64 D.asked) rfl rfl
   | 5,_=>exact Eq.trans (b:=.int .i64 D.bad) rfl rfl,.inr hx.symm⟩
theorem qvj (D:NdS) (k:Int) (f t b m:Nat) {x:Ext} (hx:x=jd8 jem 64 D.g D.S):ChunkLe (ndC (D.ta D.told k D.seq D.S) f t b m) (@Chunk.mk x true 85 ((83,1,xc k)::(ndC D f t b m).ps)):=
 ⟨fun h=>h,nlr _,fun j hj=>by
  have hj:j<85:=hj;by_cases h:j<79
  ·have e1:∀ (a:Value) r,qa3 ((79,6,a)::r) j=qa3 r j:=fun a r=>by rw[qam,if_neg Q8G]
   have e2:∀ (a:Value) r,qa3 ((83,1,a)::r) j=qa3 r j:=fun a r=>by rw[qam,if_neg Q8G]
   exact Q4r
  ·obtain⟨i,rfl⟩:∃ i,j=79+i:=⟨j-79,by omega⟩;have h6:i<6:=by omega
   match i,h6 with
   | 0,_=>exact Eq.trans (b:=xd b) rfl rfl
   | 1,_=>exact Eq.trans (b:=xd m) rfl rfl
   | 2,_=>exact Eq.trans (b:=.int .i64 D.seq) rfl rfl
   | 3,_=>exact Eq.trans (b:=.int .i64 D.told) rfl rfl
   | 4,_=>exact Eq.trans (b:=.int .i64 k) rfl rfl
   | 5,_=>exact Eq.trans (b:=.int .i64 D.bad) rfl rfl,.inr hx.symm⟩
variable {ix:List (Nat×Nat)} {D:NdS} {m:Nat}
theorem qs5 {f t b f' t' b' m':Nat} (h:ChunkLe (ndC D f' t' b' m') c) (hf:ixK ix f'=some f) (ht:ixK ix t'=some t) (hb:ixK ix b'=some b) (hm:ixK ix m'=some m):∀ j,j<85->Re1 ix ((ndC D f t b m).f j) (c.f j):=fun j hj=>by
 rw[<-h.2.2.1 j hj];exact jgl hf ht hb hm j hj
theorem nt {b:Bool} (h:b=true):(!b)=false:=by rw[h];rfl
theorem nf {b:Bool} (h:b=false):(!b)=true:=by rw[h];rfl
theorem jo7 {a b:Int} (h:¬ a=b):(a != b)=true:=by simpa using h
structure On7 (D:NdS) (T:Tbl) (now fine n l:Int) (S:List Ou) (cap i0 i1 i2 i3 i4 i5 i6 K:Nat) (h:Hp) (cf cm:Chunk):Prop where
 h0:h[i0]?=some (some (sdC i1 now fine (.slice (some ⟨i6,0,some 0⟩) S.length cap)))
 h1:h[i1]?=some (some (ndC D i2 i3 i4 i5))
 h2:h[i2]?=some (some cf)
 h3:h[i3]?=some (some (tblC T))
 h4:h[i4]?=some (some (twC n l))
 h5:h[i5]?=some (some cm)
 h6:h[i6]?=some (some (ouR S cap))
 hK:h[K]?=some none
 ne:[i0,i1,i2,i3,i4,i5,i6].Nodup
abbrev s7 (D:NdS) (T:Tbl) (now fine n l:Int) (S:List Ou) (cap i0 i1 i2 i3 i4 i5 i6:Nat) (cf cm:Chunk) (D2:NdS):List jdw:=[⟨i0,sdC i1 now fine (.slice (some ⟨i6,0,some 0⟩) S.length cap),sdC 1 now fine (.slice (some ⟨6,0,some 0⟩) S.length cap),sdC i1 now fine (.slice (some ⟨i6,0,some 0⟩) S.length cap)⟩,⟨i1,ndC D i2 i3 i4 i5,ndC D 2 3 4 5,ndC D2 i2 i3 i4 i5⟩,⟨i2,cf,noC,noC⟩,⟨i3,tblC T,tblC T,tblC T⟩,⟨i4,twC n l,twC n l,twC n l⟩,⟨i5,cm,noC,noC⟩,⟨i6,ouR S cap,ouR S cap,ouR S cap⟩]
abbrev t7 (D:NdS) (T:Tbl) (now fine n l:Int) (S:List Ou) (cap i0 i1 i2 i3 i4 i5 i6:Nat) (cf cm:Chunk):List jdw:=[⟨i0,sdC i1 now fine (.slice (some ⟨i6,0,some 0⟩) S.length cap),sdC 1 now fine (.slice (some ⟨6,0,some 0⟩) S.length cap),noC⟩,⟨i1,ndC D i2 i3 i4 i5,ndC D 2 3 4 5,noC⟩,⟨i2,cf,noC,noC⟩,⟨i3,tblC T,tblC T,tblC T⟩,⟨i4,twC n l,twC n l,noC⟩,⟨i5,cm,noC,noC⟩,⟨i6,ouR S cap,ouR S cap,noC⟩]
abbrev m7 (D2:NdS) (T:Tbl) (now fine n l:Int) (S:List Ou) (cap i0 i1 i2 i3 i4 i5 i6:Nat):Mz:=[(i0,sdC i1 now fine (.slice (some ⟨i6,0,some 0⟩) S.length cap)),(i1,ndC D2 i2 i3 i4 i5),(i3,tblC T),(i4,twC n l),(i6,ouR S cap)]
variable {T:Tbl} {now fine n l:Int} {S:List Ou} {cap i0 i1 i2 i3 i4 i5 i6 K:Nat} {cf cm:Chunk}
theorem jg8 {fn:Func} {cd:Code} (O:On7 D T now fine n l S cap i0 i1 i2 i3 i4 i5 i6 K h cf cm) (D2:NdS) (hf:prog.funcs[g]?=some fn) (hb:fn.body=some cd) (hr:∀ xs w,(callFunc g xs).run prog w=.ok (.enter g xs) w) (hwp:WP6 fn cd [xd 1,xd 0] (s7 D T now fine n l S cap i0 i1 i2 i3 i4 i5 i6 cf cm D2)) :
  qaf prog g [xd i1,xd i0] h (.tuple #[]) (m7 D2 T now fine n l S cap i0 i1 i2 i3 i4 i5 i6) [i2,i5]:=
 qaq (fun _:Unit=>True) (fun _=>_) (s7 D T now fine n l S cap i0 i1 i2 i3 i4 i5 i6 cf cm D2) [] [xd 1,xd 0] tysOK mixed hf hb hr ⟨O.h0,O.h1,O.h2,O.h3,O.h4,O.h5,O.h6,xb⟩
  ⟨⟨fun _=>⟨rfl,nlr _⟩,nlr _,lt4 (.ptr Q8I) (.plain rfl) (.plain rfl) (.slice Q8I)⟩,Q6Q,Q6B,Q6w,Q77,Q6B,⟨fun _=>⟨rfl,nlr _⟩,nlr _,qj7⟩,xb⟩ (qb3 O.ne) Q8f xb ⟨.ptr Q8I,.ptr Q8I,xb⟩ Opens.same fun _ _=>hwp
variable {h':Hp}
theorem jku {D2:NdS} (hle:ChunkLe (ndC D2 2 3 4 5) c) (e0:h'[0]?=some (some (sdC 1 now fine (.slice (some ⟨6,0,some 0⟩) S.length cap)))) (e1:h'[1]?=some (some c)) (e3:h'[3]?=some (some (tblC T))) (e4:h'[4]?=some (some (twC n l))) (e6:h'[6]?=some (some (ouR S cap))):N (EndN (s7 D T now fine n l S cap i0 i1 i2 i3 i4 i5 i6 cf cm D2) h' (.tuple #[]) (K6 (s7 D T now fine n l S cap i0 i1 i2 i3 i4 i5 i6 cf cm D2))):=by
 have hx:(ndC D2 i2 i3 i4 i5).x=Ext.none\/∃ c',h'[1]?=some (some c')/\(ndC D2 i2 i3 i4 i5).x=c'.x:=hle.2.2.2.imp id fun e=>⟨c,e1,e⟩
 refine Bq ?_;exact Q1L
abbrev e7 (T:Tbl) (now fine n l:Int) (S:List Ou) (x:Ou) (cap i1 i2 i3 i4 i5 i6 K:Nat) (D2:NdS) (κ:Option Nat):List Chunk:=match κ with|none=>[sdC i1 now fine (.slice (some ⟨i6,0,some 0⟩) (S.length+1) cap),ndC D2 i2 i3 i4 i5,noC,tblC T,twC n (l-1),noC,ouR (S++[x]) cap]|some κ=>[sdC i1 now fine (.slice (some ⟨K,0,some 0⟩) (S.length+1) κ),ndC D2 i2 i3 i4 i5,noC,tblC T,twC n (l-1),noC,ouR S cap]
abbrev f7 (S:List Ou) (x:Ou) (K sl:Nat) (κ:Option Nat):List jen:=match κ with|none=>[]|some κ=>[⟨K,sl,ouR (S++[x]) κ⟩]
abbrev o7 (S:List Ou) (cap:Nat) (κ:Option Nat):Prop:=match κ with|none=>S.length<cap|some κ=>S.length+1<=κ
abbrev Y7 (ss:List jdw) (S:List Ou) (cap:Nat) (dd:Option Nat->List Chunk) (nn:Option Nat->List jen) (v':Value) (h':Hp):Prop:=N (jiq fun κ=>o7 S cap κ/\N (Obl (Re (partX ss 0++madeX (nn κ)) (.tuple #[]) v') (N (Obl (PostS (partX ss 0++madeX (nn κ)) h' (setD ss (dd κ)) 0) (N (Obl (PostN (partX ss 0++madeX (nn κ)) h' ss.length (nn κ)) (N (Obl (PostX h' (setD ss (dd κ)) 0/\MadeP h' (nn κ)) (N True)))))))))
abbrev WY7 (fn:Func) (cd:Code) (vs':List Value) (ss:List jdw) (S:List Ou) (cap:Nat) (dd:Option Nat->List Chunk) (nn:Option Nat->List jen):Prop:=initK vs' fn.ntmps fun t=>wpC prog tys ss.length cd (bodyQ prog tys fn fun v st=>N (EndN ss st.h v (Y7 ss S cap dd nn))) ⟨t,partH ss⟩
def jjd (D':NdS) (T:Tbl) (now fine:Int) (n l:Int) (S:List Ou) (x:Ou) (cap:Nat) (i0 i1 i2 i3 i4 i5 i6 K:Nat) (v:Value) (ms:Mz):Prop:=
 v=.tuple #[]/\((S.length<cap/\ms=[(i0,sdC i1 now fine (.slice (some ⟨i6,0,some 0⟩) (S.length+1) cap)),(i1,ndC D' i2 i3 i4 i5),(i3,tblC T),(i4,twC n (l-1)),(i6,ouR (S++[x]) cap)])\/
  ∃ κ:Nat,S.length+1<=κ/\ms=[(i0,sdC i1 now fine (.slice (some ⟨K,0,some 0⟩) (S.length+1) κ)),(i1,ndC D' i2 i3 i4 i5),(i3,tblC T),(i4,twC n (l-1)),(i6,ouR S cap),(K,ouR (S++[x]) κ)])
theorem jpz {fn:Func} {cd:Code} (O:On7 D T now fine n l S cap i0 i1 i2 i3 i4 i5 i6 K h cf cm) (D2:NdS) (x:Ou) (sl:Nat) (hf:prog.funcs[g]?=some fn) (hb:fn.body=some cd) (hr:∀ xs w,(callFunc g xs).run prog w=.ok (.enter g xs) w) (hwp:WY7 fn cd [xd 1,xd 0] (t7 D T now fine n l S cap i0 i1 i2 i3 i4 i5 i6 cf cm) S cap (e7 T now fine n l S x cap i1 i2 i3 i4 i5 i6 K D2) (f7 S x K sl)) :
  CallAll prog g [xd i1,xd i0] h (jjd D2 T now fine n l S x cap i0 i1 i2 i3 i4 i5 i6 K):=by
 refine qat (qaw (fun _:Unit=>True) (fun _=>_) (o7 S cap) (fun _=>.tuple #[]) (t7 D T now fine n l S cap i0 i1 i2 i3 i4 i5 i6 cf cm) (e7 T now fine n l S x cap i1 i2 i3 i4 i5 i6 K D2) (f7 S x K sl) [xd 1,xd 0] tysOK mixed hf hb hr ⟨O.h0,O.h1,O.h2,O.h3,O.h4,O.h5,O.h6,xb⟩ ⟨Q85,Q7l,Q6B,Q6w,Q7O,Q6B,⟨fun _=>⟨rfl,xm _⟩,nlr _,qj7⟩,xb⟩ (fun κ hκ=>?_) (qb3 O.ne) Q8f (fun κ hκ=>?_) ⟨.ptr Q8I,.ptr Q8I,xb⟩ Opens.same fun _ _=>hwp) fun v ms hR=>?_
 ·cases κ with
  | none=>exact⟨⟨fun _=>⟨rfl,nlr _⟩,nlr _,lt4 (.ptr Q8I) (.plain rfl) (.plain rfl) (.slice Q8I)⟩,⟨fun _=>⟨rfl,nlr _⟩,nlr _,jgl Q8I Q8I Q8I Q8I⟩,⟨fun h=>Q95,xm _,nzj⟩,⟨fun h=>⟨rfl,nlr _⟩,nlr _,nzj⟩,⟨fun _=>⟨rfl,nlr _⟩,nlr _,re2⟩,⟨fun h=>Q95,xm _,nzj⟩,⟨fun _=>⟨rfl,nlr _⟩,nlr _,qj7⟩,xb⟩
  | some κ=>exact⟨⟨fun _=>⟨rfl,nlr _⟩,nlr _,lt4 (.ptr Q8I) (.plain rfl) (.plain rfl) (.slice Q8I)⟩,⟨fun _=>⟨rfl,nlr _⟩,nlr _,jgl Q8I Q8I Q8I Q8I⟩,⟨fun h=>Q95,xm _,nzj⟩,⟨fun h=>⟨rfl,nlr _⟩,nlr _,nzj⟩,⟨fun _=>⟨rfl,nlr _⟩,nlr _,re2⟩,⟨fun h=>Q95,xm _,nzj⟩,⟨fun _=>⟨rfl,nlr _⟩,nlr _,qj7⟩,xb⟩
 ·cases κ with
  | none=>exact trivial
  | some κ=>exact⟨⟨O.hK,rfl,.inl Qag,by simp⟩,xb⟩
 ·exact Q3H
variable {x:Ou}
theorem jp0 {D2:NdS} {sl:Nat} (hκ:S.length<cap) (hle:ChunkLe (ndC D2 2 3 4 5) c) (e0:h'[0]?=some (some (sdC 1 now fine (.slice (some ⟨6,0,some 0⟩) (S.length+1) cap)))) (e1:h'[1]?=some (some c)) (e3:h'[3]?=some (some (tblC T))) (e4:h'[4]?=some (some (twC n (l-1)))) (e6:h'[6]?=some (some (ouR (S++[x]) cap))):N (EndN (t7 D T now fine n l S cap i0 i1 i2 i3 i4 i5 i6 cf cm) h' (.tuple #[]) (Y7 (t7 D T now fine n l S cap i0 i1 i2 i3 i4 i5 i6 cf cm) S cap (e7 T now fine n l S x cap i1 i2 i3 i4 i5 i6 K D2) (f7 S x K sl))):=by
 have hx:(ndC D2 i2 i3 i4 i5).x=Ext.none\/∃ c',h'[1]?=some (some c')/\(ndC D2 i2 i3 i4 i5).x=c'.x:=hle.2.2.2.imp id fun e=>⟨c,e1,e⟩
 refine Bq ?_;refine Bo none ⟨hκ,?_⟩;exact Q1L
theorem jp1 {D2:NdS} {sl κ:Nat} (hκ:S.length+1<=κ) (hle:ChunkLe (ndC D2 2 3 4 5) c) (e0:h'[0]?=some (some (sdC 1 now fine (.slice (some ⟨sl,0,some 0⟩) (S.length+1) κ)))) (e1:h'[1]?=some (some c)) (e3:h'[3]?=some (some (tblC T))) (e4:h'[4]?=some (some (twC n (l-1)))) (e6:h'[6]?=some (some (ouR S cap))) (e9:h'[sl]?=some (some (ouR (S++[x]) κ))) (hsl:7<=sl):N (EndN (t7 D T now fine n l S cap i0 i1 i2 i3 i4 i5 i6 cf cm) h' (.tuple #[]) (Y7 (t7 D T now fine n l S cap i0 i1 i2 i3 i4 i5 i6 cf cm) S cap (e7 T now fine n l S x cap i1 i2 i3 i4 i5 i6 K D2) (f7 S x K sl))):=by
 have hx:(ndC D2 i2 i3 i4 i5).x=Ext.none\/∃ c',h'[1]?=some (some c')/\(ndC D2 i2 i3 i4 i5).x=c'.x:=hle.2.2.2.imp id fun e=>⟨c,e1,e⟩
 refine Bq ?_;refine Bo (some κ) ⟨hκ,?_⟩;refine Q3D ?_;refine Ba ⟨⟨_,e0,id,nlr _,lt4 (.ptr Q8I) (.plain rfl) (.plain rfl) (.slice (q6t (l:=partX (t7 D T now fine n l S cap i0 i1 i2 i3 i4 i5 i6 cf cm) 0) (fun p hp=>by simp[partX] at hp;rcases hp with rfl|rfl|rfl|rfl|rfl|rfl|rfl<;>(show(_:Nat)≠sl;omega))))⟩,Q7F,⟨_,e3,id,nlr _,nzj⟩,⟨_,e4,id,nlr _,re2⟩,qav e6,xb⟩ ?_;refine Ba ⟨⟨hsl,qav e9⟩,xb⟩ ?_;refine Ba ⟨Q8u,.inl rfl,xb⟩ ?_;exact Bg
theorem jdj (hE:0<T.E.length/\T.E.length<=64) (hk:(jdz D T).2=false) (O:On7 D T now fine n l S cap i0 i1 i2 i3 i4 i5 i6 K h cf cm) :
  qaf prog 42 [xd i1,xd i0] h (.tuple #[]) (m7 (D) T now fine n l S cap i0 i1 i2 i3 i4 i5 i6) [i2,i5]:=by
 refine jg8 O _ func42 Q8I (call42) ?_
 repeat' (refine Bb ?_;first|refine Q57 ?_|fail)
 refine Bb ?_
 refine Bx ?_
 refine Bb ?_
 refine Bz [0,1,2,3,5,6,7,8] [(4,[9,10,11,12,13,14])] Q8O ?_
 repeat' (refine Bb ?_;first|refine Q55 ?_|fail)
 refine Bb ?_
 refine B7 [3,7] _ Q8O Q70 fun v ms hR=>?_
 rcases hR with ⟨hE0,rfl,rfl⟩|⟨ce,hpos,hce,rfl,rfl⟩
 ·exact Q2V
 refine⟨by simp,?_⟩
 repeat' (refine Bb ?_;first|refine Q55 ?_|fail)
 refine Bb ?_
 refine Bc Q7J ?_
 repeat' (refine Bb ?_;first|refine Q55 ?_|refine Bf (nf hk) ?_|fail)
 refine Bb ?_
 exact jku (ChunkLe.refl _) rfl rfl rfl rfl rfl
theorem jdk (hE:0<T.E.length/\T.E.length<=64) (hk:(jdz D T).2=true) (hid:(jdz D T).1=D.id) (O:On7 D T now fine n l S cap i0 i1 i2 i3 i4 i5 i6 K h cf cm) :
  qaf prog 42 [xd i1,xd i0] h (.tuple #[]) (m7 (D.ta (jdz D T).1 D.asked D.seq D.S) T now fine n l S cap i0 i1 i2 i3 i4 i5 i6) [i2,i5]:=by
 refine jg8 O _ func42 Q8I (call42) ?_
 repeat' (refine Bb ?_;first|refine Q57 ?_|fail)
 refine Bb ?_
 refine Bx ?_
 refine Bb ?_
 refine Bz [0,1,2,3,5,6,7,8] [(4,[9,10,11,12,13,14])] Q8O ?_
 repeat' (refine Bb ?_;first|refine Q55 ?_|fail)
 refine Bb ?_
 refine B7 [3,7] _ Q8O Q70 fun v ms hR=>?_
 rcases hR with ⟨hE0,rfl,rfl⟩|⟨ce,hpos,hce,rfl,rfl⟩
 ·exact Q2V
 refine⟨by simp,?_⟩
 repeat' (refine Bb ?_;first|refine Q55 ?_|fail)
 refine Bb ?_
 refine Bc Q7J ?_
 repeat' (refine Bb ?_;first|refine Q55 ?_|refine Be (nt hk) ?_|fail)
 refine Bb ?_
 refine Bc (jjc T _ 3 _ Q8I) ?_
 repeat' (refine Bb ?_;first|refine Q55 ?_|refine Be (ni hid) ?_|fail)
 refine Bb ?_
 exact jku Q8i rfl rfl rfl rfl rfl
theorem jdl (hE:0<T.E.length/\T.E.length<=64) (hk:(jdz D T).2=true) (hid:¬ (jdz D T).1=D.id) (hw:¬ (T.get (jdz D T).1).when_<=now) (O:On7 D T now fine n l S cap i0 i1 i2 i3 i4 i5 i6 K h cf cm) :
  qaf prog 42 [xd i1,xd i0] h (.tuple #[]) (m7 (D.ta (jdz D T).1 D.asked D.seq D.S) T now fine n l S cap i0 i1 i2 i3 i4 i5 i6) [i2,i5]:=by
 refine jg8 O _ func42 Q8I (call42) ?_
 repeat' (refine Bb ?_;first|refine Q57 ?_|fail)
 refine Bb ?_
 refine Bx ?_
 refine Bb ?_
 refine Bz [0,1,2,3,5,6,7,8] [(4,[9,10,11,12,13,14])] Q8O ?_
 repeat' (refine Bb ?_;first|refine Q55 ?_|fail)
 refine Bb ?_
 refine B7 [3,7] _ Q8O Q70 fun v ms hR=>?_
 rcases hR with ⟨hE0,rfl,rfl⟩|⟨ce,hpos,hce,rfl,rfl⟩
 ·exact Q2V
 refine⟨by simp,?_⟩
 repeat' (refine Bb ?_;first|refine Q55 ?_|fail)
 refine Bb ?_
 refine Bc Q7J ?_
 repeat' (refine Bb ?_;first|refine Q55 ?_|refine Be (nt hk) ?_|fail)
 refine Bb ?_
 refine Bc (jjc T _ 3 _ Q8I) ?_
 repeat' (refine Bb ?_;first|refine Q55 ?_|refine Bf (jo7 hid) ?_|refine Be (by rw[xk];exact hw) ?_|fail)
 refine Bb ?_
 exact jku Q8i rfl rfl rfl rfl rfl
theorem jdm (hE:0<T.E.length/\T.E.length<=64) (hk:(jdz D T).2=true) (hid:¬ (jdz D T).1=D.id) (hw:(T.get (jdz D T).1).when_<=now) (hl0:l=0) (O:On7 D T now fine n l S cap i0 i1 i2 i3 i4 i5 i6 K h cf cm) :
  qaf prog 42 [xd i1,xd i0] h (.tuple #[]) (m7 (D.ta (jdz D T).1 D.asked D.seq D.S) T now fine n l S cap i0 i1 i2 i3 i4 i5 i6) [i2,i5]:=by
 refine jg8 O _ func42 Q8I (call42) ?_
 repeat' (refine Bb ?_;first|refine Q57 ?_|fail)
 refine Bb ?_
 refine Bx ?_
 refine Bb ?_
 refine Bz [0,1,2,3,5,6,7,8] [(4,[9,10,11,12,13,14])] Q8O ?_
 repeat' (refine Bb ?_;first|refine Q55 ?_|fail)
 refine Bb ?_
 refine B7 [3,7] _ Q8O Q70 fun v ms hR=>?_
 rcases hR with ⟨hE0,rfl,rfl⟩|⟨ce,hpos,hce,rfl,rfl⟩
 ·exact Q2V
 refine⟨by simp,?_⟩
 repeat' (refine Bb ?_;first|refine Q55 ?_|fail)
 refine Bb ?_
 refine Bc Q7J ?_
 repeat' (refine Bb ?_;first|refine Q55 ?_|refine Be (nt hk) ?_|fail)
 refine Bb ?_
 refine Bc (jjc T _ 3 _ Q8I) ?_
 repeat' (refine Bb ?_;first|refine Q55 ?_|refine Bf (jo7 hid) ?_|refine Bf (by rw[xh];exact hw) ?_|fail)
 refine Bb ?_
 refine Bl (qkn 1 (ndC (D.ta (jdz D T).1 D.asked D.seq D.S) 2 3 4 5) Q8I Q8i (fun v ms hR=>by obtain⟨rfl,rfl⟩:=hR;rfl) (qc0 (qur (D.ta (jdz D T).1 D.asked D.seq D.S) now fine (.slice (some ⟨6,0,some 0⟩) S.length cap) n l 6 0 0 0 0 0 0 0 (jdz D T).1 (T.get (jdz D T).1).when_ (T.get (jdz D T).1).x (T.get (jdz D T).1).y (T.get (jdz D T).1).a (T.get (jdz D T).1).b (T.get (jdz D T).1).d hl0 0 1 2 3 4 5 _ _ _ _ Q8I Q8I Q8I Q8I Q8I Q8I Q8H))) fun v ms hR=>?_
 obtain⟨rfl,rfl⟩:=hR
 repeat' (refine Bb ?_;first|refine Q55 ?_|refine Q5d ?_|fail)
 refine Bb ?_
 exact jku (ChunkLe.refl _) rfl rfl rfl rfl rfl
theorem jdn (hE:0<T.E.length/\T.E.length<=64) (hS:S.length<=cap/\S.length<=1000) (hk:(jdz D T).2=true) (hid:¬ (jdz D T).1=D.id) (hw:(T.get (jdz D T).1).when_<=now) (hl:0<l/\l<1000) (hs:0<=D.seq/\D.seq<65535) (hb:0<=D.boot/\D.boot<=65535) (O:On7 D T now fine n l S cap i0 i1 i2 i3 i4 i5 i6 K h cf cm) :
  CallAll prog 42 [xd i1,xd i0] h (jjd (D.ta (jdz D T).1 D.asked (D.seq+1) D.S) T now fine n l S (⟨(jms (jdz D T).1 (T.get (jdz D T).1)).by (D.ta (jdz D T).1 D.asked D.seq D.S) now,fine⟩) cap i0 i1 i2 i3 i4 i5 i6 K):=by
 refine jpz O _ _ 10 func42 Q8I (call42) ?_
 repeat' (refine Bb ?_;first|refine Q57 ?_|fail)
 refine Bb ?_
 refine Bx ?_
 refine Bb ?_
 refine Bz [0,1,2,3,5,6,7,8] [(4,[9,10,11,12,13,14])] Q8O ?_
 repeat' (refine Bb ?_;first|refine Q55 ?_|fail)
 refine Bb ?_
 refine B7 [3,7] _ Q8O Q70 fun v ms hR=>?_
 rcases hR with ⟨hE0,rfl,rfl⟩|⟨ce,hpos,hce,rfl,rfl⟩
 ·exact Q2V
 refine⟨by simp,?_⟩
 repeat' (refine Bb ?_;first|refine Q55 ?_|fail)
 refine Bb ?_
 refine Bc Q7J ?_
 repeat' (refine Bb ?_;first|refine Q55 ?_|refine Be (nt hk) ?_|fail)
 refine Bb ?_
 refine Bc (jjc T _ 3 _ Q8I) ?_
 repeat' (refine Bb ?_;first|refine Q55 ?_|refine Bf (jo7 hid) ?_|refine Bf (by rw[xh];exact hw) ?_|fail)
 refine Bb ?_
 refine Bl (qkn 1 (ndC (D.ta (jdz D T).1 D.asked D.seq D.S) 2 3 4 5) Q8I Q8i Q8E (q6s (D.ta (jdz D T).1 D.asked D.seq D.S) (jms (jdz D T).1 (T.get (jdz D T).1)) now fine n l S cap hS hl hs hb 0 1 2 3 4 5 6 10 _ _ _ _ Q8I Q8I Q8I Q8I Q8I Q8I Q8I Q8I Q8H)) fun v ms hR=>?_
 obtain⟨rfl,⟨hκ,rfl⟩|⟨κ,hκ,rfl⟩⟩:=hR
 ·refine Q01 ?_;exact jp0 hκ (ChunkLe.refl _) rfl rfl rfl rfl rfl
 ·refine Q01 ?_;exact jp1 hκ (ChunkLe.refl _) rfl rfl rfl rfl rfl rfl Q8H
theorem qg0 {c:Nat}:ChunkReLe ix (ouR S c) (ouR S c):=⟨id,nlr _,qj7⟩
theorem qg1:ChunkReLe ix noC noC:=⟨id,nlr _,nzj⟩
theorem q6w (a:Int):∀ (l:List Int) (s:NxS) (L:List Int),(s.any=true->s.least∈L)->(s.behind=true->s.next∈L)->((l.foldl (NxS.step a) s).any=true->(l.foldl (NxS.step a) s).least∈L++l)/\((l.foldl (NxS.step a) s).behind=true->(l.foldl (NxS.step a) s).next∈L++l)/\(l≠[]\/s.any=true->(l.foldl (NxS.step a) s).any=true)
 | [],s,L,h1,h2=>by simp only[List.foldl_nil,zr];exact⟨h1,h2,fun h=>by simpa using h⟩
 | x::l,s,L,h1,h2=>by
  have key:((NxS.step a s x).any=true->(NxS.step a s x).least∈L++[x])/\((NxS.step a s x).behind=true->(NxS.step a s x).next∈L++[x])/\(NxS.step a s x).any=true:=by
   obtain⟨le,ne,an,be⟩:=s;simp only at h1 h2;unfold NxS.step;dsimp only;cases an<;>cases be<;>simp only[xJ,reduceCtorEq,true_or,if_true,false_or,forall_const,false_implies,Bool.true_eq_false,and_true] at h1 h2 ⊢<;>(repeat' split)<;>simp_all
  obtain⟨k1,k2,k3⟩:=key;obtain⟨r1,r2,r3⟩:=q6w a l (NxS.step a s x) (L++[x]) k1 k2;rw[List.foldl_cons];rw[zx] at r1 r2;exact⟨r1,r2,fun _=>r3 (.inr k3)⟩
theorem q5b {a:Int} {l:List Int} (h:l≠[]):(jeq a l).2=true/\(jeq a l).1∈l:=by
 obtain⟨r1,r2,r3⟩:=q6w a l ⟨0,0,false,false⟩ [] (fun h=>by cases h) (fun h=>by cases h);have r3:=r3 (.inl h);unfold jeq;split
 ·rename_i hb;exact⟨rfl,r2 hb⟩
 ·exact⟨r3,r1 r3⟩
theorem q1o {E:Ez} {p:Ent->Bool} {x:Int}:∀ {r:Nat},x∈evL E p r->∃ i,i<r/\x=(entT E i).node
 | 0,h=>by cases h
 | r+1,h=>by
  unfold evL at h;split at h
  ·rcases yM.1 h with h|h
   ·obtain⟨i,hi,e⟩:=q1o h;exact⟨i,by omega,e⟩
   ·exact⟨r,by omega,by simpa using h⟩
  ·obtain⟨i,hi,e⟩:=q1o h;exact⟨i,by omega,e⟩
theorem qo0 (E:Ez):∀ r,(evL E (fun _=>true) r).length=r
 | 0=>rfl
 | r+1=>by unfold evL;rw[if_pos rfl,xt,qo0 E r];rfl
def TIn (T:Tbl):Prop:=∀ i,i<T.E.length->0<=(entT T.E i).node/\(entT T.E i).node<64
def jee (D:NdS) (T:Tbl):Int:=(jeq D.asked (jht T.E (fun _=>true))).1
theorem qo1 (hT:TIn T) (hE:0<T.E.length):(jeq D.asked (jht T.E (fun _=>true))).2=true/\0<=jee D T/\jee D T<64:=by
 have h0:jht T.E (fun _=>true)≠[]:=fun e=>by
  have:=qo0 T.E T.E.length;rw[show evL T.E (fun _=>true) T.E.length=[] from e] at this;have:0=T.E.length:=this;omega
 obtain⟨h1,h2⟩:=q5b (a:=D.asked) h0;obtain⟨i,hi,e⟩:=q1o h2;have:=hT i hi;rw[<-e] at this;exact⟨h1,this⟩
def jkv (k:Int):Frm:=⟨2,0,0,0,0,k,0,0,0,0,0,0,0,0,0⟩
@[reducible] def plSet (E:Ez) (p:Ent->Bool):EvS->Vz
 | .no r=>[(17,.int .i64 (r:Int)),(4,.slice none 0 0)]
 | .yes r c=>[(17,.int .i64 (r:Int)),(4,.slice (some ⟨8,0,some 0⟩) (evL E p r).length c)]
@[reducible] def plHs (E:Ez) (p:Ent->Bool):EvS->Mz
 | .no r=>[]
 | .yes r c=>[(8,rl (evL E p r) c)]
theorem jdo (hE:0<T.E.length/\T.E.length<=64) (hT:TIn T) (m:Nat) (hm:jee D T=(m:Int)) (hm64:m<64) (hl0:l=0) (O:On7 D T now fine n l S cap i0 i1 i2 i3 i4 i5 i6 K h cf cm) :
  qaf prog 43 [xd i1,xd i0] h (.tuple #[]) (m7 (D.ta D.told (jee D T) D.seq D.S) T now fine n l S cap i0 i1 i2 i3 i4 i5 i6) [i2,i5]:=by
 refine jg8 O _ func43 Q8I (call43) ?_
 refine Bb ?_
 refine Bl (jiv T hE.2 3 7 _ Q8I Q8I) fun v ms hR=>?_
 rcases hR with ⟨hE0,rfl,rfl⟩|⟨ce,hpos,hce,rfl,rfl⟩
 ·exact Q2V
 obtain⟨hk,hk0⟩:=qo1 (D:=D) hT hE.1
 unfold jee at hm
 have hEE:0<T.E.length/\T.E.length<=64:=hE
 repeat' (refine Bb ?_;first|refine Q55 ?_|fail)
 refine Bb ?_
 refine Bw (α:=EvS) (jo6 T.E fun _=>true) (fun s=>T.E.length-s.r) (plSet T.E fun _=>true) (plHs T.E fun _=>true) (.no 0) [(0,0),(1,1),(2,2),(3,3),(4,4),(5,5),(6,6),(7,7)] ⟨xm _,rfl⟩ ?_ ?_
 ·exact Q1o
 intro s hs
 have hr:s.r<=T.E.length:=by cases s<;>exact hs.1
 by_cases hlt:s.r<T.E.length
 ·exact Q18
 obtain⟨r,c,rfl⟩:∃ r c,s=EvS.yes r c:=Q2T
 obtain⟨r1,r2,r3⟩:=hs
 have hlt:¬ r<T.E.length:=hlt
 obtain rfl:r=T.E.length:=by omega
 refine Bb ?_
 refine Be Q8S ?_
 repeat' (refine Bb ?_;first|refine Q55 ?_|fail)
 refine Bb ?_
 refine Bc Q7I ?_
 repeat' (refine Bb ?_;first|refine Q55 ?_|refine Be Q9L ?_|fail)
 refine Bb ?_
 refine Bl (qkn 1 (ndC (D.ta D.told (jee D T) D.seq D.S) 2 3 4 5) Q8I (qvj D (jee D T) 2 3 4 5 rfl) (fun v ms hR=>by obtain⟨rfl,rfl⟩:=hR;rfl) (qc0 (qur (D.ta D.told (jee D T) D.seq D.S) now fine (.slice (some ⟨6,0,some 0⟩) S.length cap) n l 2 0 0 0 0 (jee D T) 0 0 0 0 0 0 0 0 0 hl0 0 1 2 3 4 5 _ _ _ _ Q8I Q8I Q8I Q8I Q8I Q8I Q8H))) fun v ms hR=>?_
 obtain⟨rfl,rfl⟩:=hR
 repeat' (refine Bb ?_;first|refine Q55 ?_|refine Q5d ?_|fail)
 refine Bb ?_
 exact jku (ChunkLe.refl _) rfl rfl rfl rfl rfl
theorem jdp (hE:0<T.E.length/\T.E.length<=64) (hS:S.length<=cap/\S.length<=1000) (hT:TIn T) (m:Nat) (hm:jee D T=(m:Int)) (hm64:m<64) (hl:0<l/\l<1000) (hs:0<=D.seq/\D.seq<65535) (hb:0<=D.boot/\D.boot<=65535) (O:On7 D T now fine n l S cap i0 i1 i2 i3 i4 i5 i6 K h cf cm) :
  CallAll prog 43 [xd i1,xd i0] h (jjd (D.ta D.told (jee D T) (D.seq+1) (upd D.S m ((D.S m).poll fine (D.boot*65536+D.seq)))) T now fine n l S (⟨(jkv (jee D T)).by (D.ta D.told (jee D T) D.seq D.S) now,fine⟩) cap i0 i1 i2 i3 i4 i5 i6 K):=by
 refine jpz O _ _ 10 func43 Q8I (call43) ?_
 refine Bb ?_
 refine Bl (jiv T hE.2 3 7 _ Q8I Q8I) fun v ms hR=>?_
 rcases hR with ⟨hE0,rfl,rfl⟩|⟨ce,hpos,hce,rfl,rfl⟩
 ·exact Q2V
 obtain⟨hk,hk0⟩:=qo1 (D:=D) hT hE.1
 unfold jee at hm
 have hEE:0<T.E.length/\T.E.length<=64:=hE
 repeat' (refine Bb ?_;first|refine Q55 ?_|fail)
 refine Bb ?_
 refine Bw (α:=EvS) (jo6 T.E fun _=>true) (fun s=>T.E.length-s.r) (plSet T.E fun _=>true) (plHs T.E fun _=>true) (.no 0) [(0,0),(1,1),(2,2),(3,3),(4,4),(5,5),(6,6),(7,7)] ⟨xm _,rfl⟩ ?_ ?_
 ·exact Q1o
 intro s hs
 have hr:s.r<=T.E.length:=by cases s<;>exact hs.1
 by_cases hlt:s.r<T.E.length
 ·exact Q18
 obtain⟨r,c,rfl⟩:∃ r c,s=EvS.yes r c:=Q2T
 obtain⟨r1,r2,r3⟩:=hs
 have hlt:¬ r<T.E.length:=hlt
 obtain rfl:r=T.E.length:=by omega
 refine Bb ?_
 refine Be Q8S ?_
 repeat' (refine Bb ?_;first|refine Q55 ?_|fail)
 refine Bb ?_
 refine Bc Q7I ?_
 repeat' (refine Bb ?_;first|refine Q55 ?_|refine Be Q9L ?_|fail)
 refine Bb ?_
 refine Bl (qkn 1 (ndC (D.ta D.told (jee D T) D.seq D.S) 2 3 4 5) Q8I (qvj D (jee D T) 2 3 4 5 rfl) Q8E (q6s (D.ta D.told (jee D T) D.seq D.S) (jkv (jee D T)) now fine n l S cap hS hl hs hb 0 1 2 3 4 5 6 10 _ _ _ _ Q8I Q8I Q8I Q8I Q8I Q8I Q8I Q8I Q8H)) fun v ms hR=>?_
 obtain⟨rfl,⟨hκ,rfl⟩|⟨κ,hκ,rfl⟩⟩:=hR
 ·refine Q1l ?_;refine B7 [1,11] _ Q8O Q7U fun v ms hR=>?_
  obtain⟨rfl,rfl⟩:=hR;refine⟨by simp,?_⟩;repeat' (refine Bb ?_;first|refine Q55 ?_|fail)
  refine Bb ?_;exact jp0 hκ (ChunkLe.refl _) rfl rfl rfl rfl rfl
 ·refine Q1l ?_;refine B7 [1,11] _ Q8O Q7U fun v ms hR=>?_
  obtain⟨rfl,rfl⟩:=hR;refine⟨by simp,?_⟩;repeat' (refine Bb ?_;first|refine Q55 ?_|fail)
  refine Bb ?_;exact jp1 hκ (ChunkLe.refl _) rfl rfl rfl rfl rfl rfl Q8H
open Go Go.RowKit Sx
structure TlS where
 D:NdS
 l:Int
 o:Option Ou
def jec (D:NdS) (l:Int) (T:Tbl) (now fine:Int):TlS:=
 if T.E=[] then ⟨D,l,none⟩
 else if (jdz D T).2=false then ⟨D,l,none⟩
 else if (jdz D T).1=D.id\/¬ (T.get (jdz D T).1).when_<=now then ⟨D.ta (jdz D T).1 D.asked D.seq D.S,l,none⟩
 else if l=0 then ⟨D.ta (jdz D T).1 D.asked D.seq D.S,l,none⟩
 else ⟨D.ta (jdz D T).1 D.asked (D.seq+1) D.S,l-1,some ⟨(jms (jdz D T).1 (T.get (jdz D T).1)).by (D.ta (jdz D T).1 D.asked D.seq D.S) now,fine⟩⟩
def jff (D:NdS) (l:Int) (T:Tbl) (now fine:Int):TlS:=
 if T.E=[] then ⟨D,l,none⟩
 else if l=0 then ⟨D.ta D.told (jee D T) D.seq D.S,l,none⟩
 else ⟨D.ta D.told (jee D T) (D.seq+1) (upd D.S (jee D T).toNat ((D.S (jee D T).toNat).poll fine (D.boot*65536+D.seq))),l-1,some ⟨(jkv (jee D T)).by (D.ta D.told (jee D T) D.seq D.S) now,fine⟩⟩
def jmt (r:TlS) (T:Tbl) (now fine n:Int) (S:List Ou) (cap:Nat) (i0 i1 i2 i3 i4 i5 i6 K:Nat) (v:Value) (ms:Mz):Prop:=
 v=.tuple #[]/\match r.o with
 | none=>ms=[(i0,sdC i1 now fine (.slice (some ⟨i6,0,some 0⟩) S.length cap)),(i1,ndC r.D i2 i3 i4 i5),(i3,tblC T),(i4,twC n r.l),(i6,ouR S cap)]
 | some x=>(S.length<cap/\ms=[(i0,sdC i1 now fine (.slice (some ⟨i6,0,some 0⟩) (S.length+1) cap)),(i1,ndC r.D i2 i3 i4 i5),(i3,tblC T),(i4,twC n r.l),(i6,ouR (S++[x]) cap)])\/
  ∃ κ:Nat,S.length+1<=κ/\ms=[(i0,sdC i1 now fine (.slice (some ⟨K,0,some 0⟩) (S.length+1) κ)),(i1,ndC r.D i2 i3 i4 i5),(i3,tblC T),(i4,twC n r.l),(i6,ouR S cap),(K,ouR (S++[x]) κ)]
theorem jac (hE0:T.E=[]) (O:On7 D T now fine n l S cap i0 i1 i2 i3 i4 i5 i6 K h cf cm) :
  qaf prog 42 [xd i1,xd i0] h (.tuple #[]) (m7 (D) T now fine n l S cap i0 i1 i2 i3 i4 i5 i6) [i2,i5]:=by
 refine jg8 O _ func42 Q8I (call42) ?_
 repeat' (refine Bb ?_;first|refine Q55 ?_|refine Bc (ji6 T hE0 3 _ Q8I) ?_|refine Bc (qzo _ _) ?_|refine Q5e ?_|fail)
 refine Bb ?_
 exact jku (ChunkLe.refl _) rfl rfl rfl rfl rfl
theorem jad (hE0:T.E=[]) (O:On7 D T now fine n l S cap i0 i1 i2 i3 i4 i5 i6 K h cf cm) :
  qaf prog 43 [xd i1,xd i0] h (.tuple #[]) (m7 (D) T now fine n l S cap i0 i1 i2 i3 i4 i5 i6) [i2,i5]:=by
 refine jg8 O _ func43 Q8I (call43) ?_
 repeat' (refine Bb ?_;first|refine Q55 ?_|refine Bu 1 ?_|refine Bc (ji6 T hE0 3 _ Q8I) ?_|refine Bc (qok _ _) ?_|refine Q5b ?_|fail)
 refine Bb ?_
 exact jku (ChunkLe.refl _) rfl rfl rfl rfl rfl
theorem rowN {r r':TlS} {rh:List Nat} (e:r'=r) (ho:r.o=none) (hc:qaf prog g vs h (.tuple #[]) [(i0,sdC i1 now fine (.slice (some ⟨i6,0,some 0⟩) S.length cap)),(i1,ndC r.D i2 i3 i4 i5),(i3,tblC T),(i4,twC n r.l),(i6,ouR S cap)] rh):CallAll prog g vs h (jmt r' T now fine n S cap i0 i1 i2 i3 i4 i5 i6 K):=Q4n
theorem jp2 {D':NdS} {r':TlS} (e:r'=⟨D',l-1,some x⟩) (hc:CallAll prog g vs h (jjd D' T now fine n l S x cap i0 i1 i2 i3 i4 i5 i6 K)):CallAll prog g vs h (jmt r' T now fine n S cap i0 i1 i2 i3 i4 i5 i6 K):=by
 subst e;exact hc
theorem qvk (hE:T.E.length<=64) (hS:S.length<=cap/\S.length<=1000) (hl:0<=l/\l<1000) (hs:0<=D.seq/\D.seq<65535) (hb:0<=D.boot/\D.boot<=65535) (O:On7 D T now fine n l S cap i0 i1 i2 i3 i4 i5 i6 K h cf cm) :
  CallAll prog 42 [xd i1,xd i0] h (jmt (jec D l T now fine) T now fine n S cap i0 i1 i2 i3 i4 i5 i6 K):=by
 by_cases h0':T.E=[]
 ·refine rowN (r:=⟨D,l,none⟩) ?_ rfl (jac h0' O);unfold jec;rw[if_pos h0']
 have hE2:0<T.E.length/\T.E.length<=64:=⟨List.length_pos_iff.2 h0',hE⟩
 by_cases hk:(jdz D T).2=false
 ·refine rowN (r:=⟨D,l,none⟩) ?_ rfl (jdj hE2 hk O);unfold jec;rw[if_neg h0',if_pos hk]
 have hk:(jdz D T).2=true:=by simpa using hk
 by_cases hid:(jdz D T).1=D.id
 ·refine rowN (r:=⟨D.ta (jdz D T).1 D.asked D.seq D.S,l,none⟩) ?_ rfl (jdk hE2 hk hid O);unfold jec;rw[if_neg h0',if_neg Q9i,if_pos (.inl hid)]
 by_cases hw:(T.get (jdz D T).1).when_<=now
 rotate_left
 ·refine rowN (r:=⟨D.ta (jdz D T).1 D.asked D.seq D.S,l,none⟩) ?_ rfl (jdl hE2 hk hid hw O);unfold jec;rw[if_neg h0',if_neg Q9i,if_pos (.inr hw)]
 have hno:¬ ((jdz D T).1=D.id\/¬ (T.get (jdz D T).1).when_<=now):=fun h=>h.elim hid fun h=>h hw
 by_cases hl0:l=0
 ·refine rowN (r:=⟨D.ta (jdz D T).1 D.asked D.seq D.S,l,none⟩) ?_ rfl (jdm hE2 hk hid hw hl0 O);unfold jec;rw[if_neg h0',if_neg Q9i,if_neg hno,if_pos hl0]
 ·refine jp2 ?_ (jdn hE2 hS hk hid hw Q8G hs hb O);unfold jec;rw[if_neg h0',if_neg Q9i,if_neg hno,if_neg hl0]
theorem jhu (hE:T.E.length<=64) (hS:S.length<=cap/\S.length<=1000) (hl:0<=l/\l<1000) (hs:0<=D.seq/\D.seq<65535) (hb:0<=D.boot/\D.boot<=65535) (hT:TIn T) (O:On7 D T now fine n l S cap i0 i1 i2 i3 i4 i5 i6 K h cf cm) :
  CallAll prog 43 [xd i1,xd i0] h (jmt (jff D l T now fine) T now fine n S cap i0 i1 i2 i3 i4 i5 i6 K):=by
 by_cases h0':T.E=[]
 ·refine rowN (r:=⟨D,l,none⟩) ?_ rfl (jad h0' O);unfold jff;rw[if_pos h0']
 have hE2:0<T.E.length/\T.E.length<=64:=⟨List.length_pos_iff.2 h0',hE⟩
 obtain⟨hk,hk1,hk2⟩:=qo1 (D:=D) hT hE2.1
 have hm:jee D T=((jee D T).toNat:Int):=by omega
 by_cases hl0:l=0
 ·refine rowN (r:=⟨D.ta D.told (jee D T) D.seq D.S,l,none⟩) ?_ rfl (jdo hE2 hT _ hm Q8G hl0 O);unfold jff;rw[if_neg h0',if_pos hl0]
 ·refine jp2 ?_ (jdp hE2 hS hT _ hm Q8G Q8G hs hb O);unfold jff;rw[if_neg h0',if_neg hl0]
def jez (s:NSt):Frm:=if s.fv=true then ⟨5,0,0,0,0,0,0,0,0,0,s.fx,s.fy,s.fa,s.fb,s.fd⟩ else ⟨1,0,0,0,0,0,0,0,0,0,0,0,0,0,0⟩
def NdS.up (D:NdS):NdS:={D with seq:=D.seq+1}
def NSt.tl (s:NSt) (g:Rz) (now fine:Int):TlS:=jec (s.nd g).up (s.bn-1) (s.T.ev now (s.C 7)) now fine
def NSt.ask (s:NSt) (g:Rz) (now fine:Int):TlS:=jff (s.tl g now fine).D (s.tl g now fine).l (s.T.ev now (s.C 7)) now fine
def NSt.ticked (s:NSt) (g:Rz) (now fine:Int):NSt:=⟨s.C,s.id,s.boot,(s.ask g now fine).D.seq,(s.ask g now fine).D.told,(s.ask g now fine).D.asked,s.bad,s.fm,s.fv,s.fx,s.fy,s.fa,s.fb,s.fd,s.T.ev now (s.C 7),s.bn,(s.ask g now fine).l,s.te,now+s.te,(s.ask g now fine).D.S⟩
def jer (s:NSt) (g:Rz) (now fine:Int):List Ou:=([⟨(jez s).by (s.nd g) now,fine⟩]++(s.tl g now fine).o.toList)++(s.ask g now fine).o.toList
theorem q5c (s:NSt) (g:Rz) (now fine:Int):1<=(jer s g now fine).length:=by
 unfold jer;rw[xt,xt];simp only[xQ,x5];omega
def je8 (s:NSt) (now fine:Int):NSt×List Ou:=
 if now<s.tx then ({s with bl:=s.bn,T:=s.T.ev now (s.C 7)},[])
 else (s.ticked (fun _=>(0,0)) now fine,jer s (fun _=>(0,0)) now fine)
def NdS.at' (D:NdS) (g:Rz):NdS:={D with g:=g}
theorem jdq (D:NdS) (g:Rz) (l:Int) (T:Tbl) (now fine:Int):jec (D.at' g) l T now fine=⟨(jec D l T now fine).D.at' g,(jec D l T now fine).l,(jec D l T now fine).o⟩:=by
 have e1:jdz (D.at' g) T=jdz D T:=rfl;have e2:(D.at' g).id=D.id:=rfl;unfold jec;rw[e1,e2];by_cases h1:T.E=[]
 ·rw[if_pos h1,if_pos h1]
 rw[if_neg h1,if_neg h1];by_cases h2:(jdz D T).2=false
 ·rw[if_pos h2,if_pos h2]
 rw[if_neg h2,if_neg h2];by_cases h3:(jdz D T).1=D.id\/¬ (T.get (jdz D T).1).when_<=now
 ·rw[if_pos h3,if_pos h3];rfl
 rw[if_neg h3,if_neg h3];exact Q4U
theorem jo8 (D:NdS) (g:Rz) (l:Int) (T:Tbl) (now fine:Int):jff (D.at' g) l T now fine=⟨(jff D l T now fine).D.at' g,(jff D l T now fine).l,(jff D l T now fine).o⟩:=by
 have e1:jee (D.at' g) T=jee D T:=rfl;unfold jff;rw[e1];by_cases h1:T.E=[]
 ·rw[if_pos h1,if_pos h1]
 rw[if_neg h1,if_neg h1];exact Q4U
theorem jp3 (s:NSt) (g:Rz) (now fine:Int):s.tl g now fine=⟨(s.tl (fun _=>(0,0)) now fine).D.at' g,(s.tl (fun _=>(0,0)) now fine).l,(s.tl (fun _=>(0,0)) now fine).o⟩:=
 jdq (s.nd fun _=>(0,0)).up g (s.bn-1) (s.T.ev now (s.C 7)) now fine
theorem jq6 (s:NSt) (g:Rz) (now fine:Int):s.ask g now fine=⟨(s.ask (fun _=>(0,0)) now fine).D.at' g,(s.ask (fun _=>(0,0)) now fine).l,(s.ask (fun _=>(0,0)) now fine).o⟩:=by
 unfold NSt.ask;rw[jp3 s g];exact jo8 _ g _ _ now fine
theorem jdr (s:NSt) (g:Rz) (now fine:Int):s.ticked g now fine=s.ticked (fun _=>(0,0)) now fine/\jer s g now fine=jer s (fun _=>(0,0)) now fine:=by
 unfold NSt.ticked jer;rw[jq6 s g,jp3 s g];exact⟨rfl,rfl⟩
theorem qm4 (D:NdS) (l:Int) (T:Tbl) (now fine:Int):(jec D l T now fine).D.C=D.C/\(jec D l T now fine).D.id=D.id/\(jec D l T now fine).D.boot=D.boot/\(jec D l T now fine).D.g=D.g/\(jec D l T now fine).D.bad=D.bad/\(D.seq<=(jec D l T now fine).D.seq/\(jec D l T now fine).D.seq<=D.seq+1)/\(0<=l->0<=(jec D l T now fine).l/\(jec D l T now fine).l<=l):=by
 unfold jec;by_cases h1:T.E=[]
 ·rw[if_pos h1];exact⟨rfl,rfl,rfl,rfl,rfl,⟨yp _,by show D.seq<=_;omega⟩,fun h=>⟨h,yp _⟩⟩
 rw[if_neg h1];by_cases h2:(jdz D T).2=false
 ·rw[if_pos h2];exact⟨rfl,rfl,rfl,rfl,rfl,⟨yp _,by show D.seq<=_;omega⟩,fun h=>⟨h,yp _⟩⟩
 rw[if_neg h2];by_cases h3:(jdz D T).1=D.id\/¬ (T.get (jdz D T).1).when_<=now
 ·rw[if_pos h3];exact⟨rfl,rfl,rfl,rfl,rfl,⟨yp _,by show D.seq<=_;omega⟩,fun h=>⟨h,yp _⟩⟩
 rw[if_neg h3];by_cases h4:l=0
 ·rw[if_pos h4];exact⟨rfl,rfl,rfl,rfl,rfl,⟨yp _,by show D.seq<=_;omega⟩,fun h=>⟨h,yp _⟩⟩
 rw[if_neg h4];exact⟨rfl,rfl,rfl,rfl,rfl,⟨by show D.seq<=D.seq+1;omega,yp _⟩,fun h=>⟨by show 0<=l-1;omega,by show l-1<=l;omega⟩⟩
theorem q1p (D:NdS) (l:Int) (T:Tbl) (now fine:Int):(jff D l T now fine).D.C=D.C/\(jff D l T now fine).D.id=D.id/\(jff D l T now fine).D.boot=D.boot/\(jff D l T now fine).D.g=D.g/\(jff D l T now fine).D.bad=D.bad:=by
 unfold jff;by_cases h1:T.E=[]
 ·rw[if_pos h1];exact⟨rfl,rfl,rfl,rfl,rfl⟩
 rw[if_neg h1];by_cases h4:l=0
 ·rw[if_pos h4];exact⟨rfl,rfl,rfl,rfl,rfl⟩
 rw[if_neg h4];exact⟨rfl,rfl,rfl,rfl,rfl⟩
structure NdT (s:NSt):Prop where
 seq:0<=s.seq/\s.seq<65530
 boot:0<=s.boot/\s.boot<=65535
 bn:0<s.bn/\s.bn<1000
 te:0<=s.te/\s.te<=1000000
 C7 : -9223372036854775808<=s.C 7/\s.C 7<9223372036854775808
 E:s.T.E.length<=64
theorem qf9 (s:NSt) (g:Rz) (now fine:Int):(s.ask g now fine).D=(s.ticked g now fine).nd g:=by
 obtain⟨a1,a2,a3,a4,a5⟩:=q1p (s.tl g now fine).D (s.tl g now fine).l (s.T.ev now (s.C 7)) now fine;obtain⟨b1,b2,b3,b4,b5,_⟩:=qm4 (s.nd g).up (s.bn-1) (s.T.ev now (s.C 7)) now fine;show(s.ask g now fine).D=⟨s.C,s.id,s.boot,g,(s.ask g now fine).D.S,(s.ask g now fine).D.seq,(s.ask g now fine).D.told,(s.ask g now fine).D.asked,s.bad⟩;have c1:(s.ask g now fine).D.C=s.C:=a1.trans b1;have c2:(s.ask g now fine).D.id=s.id:=a2.trans b2;have c3:(s.ask g now fine).D.boot=s.boot:=a3.trans b3;have c4:(s.ask g now fine).D.g=g:=a4.trans b4;have c5:(s.ask g now fine).D.bad=s.bad:=a5.trans b5;generalize (s.ask g now fine).D=D at c1 c2 c3 c4 c5;obtain⟨C,id,boot,g',S,sq,td,ak,bd⟩:=D;simp only at c1 c2 c3 c4 c5;subst c1 c2 c3 c4 c5;rfl
theorem qea {silent:Int} (h:T.E.length<=64):(T.ev now silent).E.length<=64:=by
 have dl:∀ (L:Ez) (k:Int),(jfu L k).length<=L.length:=fun L k=>by unfold jfu;exact List.length_filter_le _ _
 have ge:∀ r,(evE T.E (evP now silent) r).length<=T.E.length:=fun r=>by
  induction r with
  | zero=>exact nlr _
  | succ r ih=>
   unfold evE;split
   ·exact xF (dl _ _) ih
   ·exact ih
 exact xF (ge _) h
theorem jae (s:NSt) (ok:NdT s) (now fine:Int) (hT:TIn (s.T.ev now (s.C 7))) (ht:0<=now/\now<=1000000) (hd:¬ now<s.tx) (i K:Nat) (h:Hp) (hi:h[i]?=some (some (ndP s))) (hK:h[K]?=some none) :
  CallAll prog 9 [xd i,xc now,xc fine] h (fun v ms=>∃ κ:Nat,(jer s (fun _=>(0,0)) now fine).length<=κ/\v=.slice (some ⟨K,0,some 0⟩) (jer s (fun _=>(0,0)) now fine).length κ/\ms=[(i,ndP (s.ticked (fun _=>(0,0)) now fine)),(K,ouR (jer s (fun _=>(0,0)) now fine) κ)]):=by
 have key:=qaw (G:=tys) (h:=h) (vs:=[xd i,.int .i64 now,.int .i64 fine]) (fun _:Rz=>True) (ndH s) (α:=Nat×Nat) (fun κ=>(jer s (fun _=>(0,0)) now fine).length<=κ.1) (fun κ=>.slice (some ⟨K,0,some 0⟩) (jer s (fun _=>(0,0)) now fine).length κ.1) [⟨i,ndP s,ndP s,ndP s⟩] (fun _=>[ndP (s.ticked (fun _=>(0,0)) now fine)]) (fun κ=>[⟨K,κ.2,ouR (jer s (fun _=>(0,0)) now fine) κ.1⟩]) [xd 0,.int .i64 now,.int .i64 fine] tysOK mixed func9 Q8I (call9) ⟨hi,xb⟩ ⟨Q6w,xb⟩ Q88 Q8N Q6A (fun κ hκ=>⟨⟨hK,rfl,.inl (by show 0<κ.1*16;have h1:(jer s (fun _=>(0,0)) now fine).length<=κ.1:=hκ;have h2:=q5c s (fun _=>(0,0)) now fine;omega),by simp⟩,xb⟩) Q6G qas ?_
 ·refine qat key fun v ms hR=>?_
  obtain⟨κ,hκ,rfl,rfl⟩:=hR;exact⟨κ.1,hκ,rfl,rfl⟩
 intro g _
 obtain⟨g1,g2⟩:=jdr s g now fine
 rw[<-g1,<-g2]
 have okq:=ok.seq
 have okb:=ok.boot
 have okn:=ok.bn
 have okt:=ok.te
 have tk:=qm4 (s.nd g).up (s.bn-1) (s.T.ev now (s.C 7)) now fine
 have tks:(s.nd g).up.seq=s.seq+1:=rfl
 have tkl:=tk.2.2.2.2.2.2 Q8G
 have tkq:=tk.2.2.2.2.2.1
 rw[tks] at tkq
 have tq:0<=(s.tl g now fine).D.seq/\(s.tl g now fine).D.seq<65535:=by
  show 0<=(jec (s.nd g).up (s.bn-1) (s.T.ev now (s.C 7)) now fine).D.seq/\(jec (s.nd g).up (s.bn-1) (s.T.ev now (s.C 7)) now fine).D.seq<65535;omega
 have tl1:0<=(s.tl g now fine).l/\(s.tl g now fine).l<1000:=by
  show 0<=(jec (s.nd g).up (s.bn-1) (s.T.ev now (s.C 7)) now fine).l/\(jec (s.nd g).up (s.bn-1) (s.T.ev now (s.C 7)) now fine).l<1000;omega
 have tb:0<=(s.tl g now fine).D.boot/\(s.tl g now fine).D.boot<=65535:=by
  have:(s.tl g now fine).D.boot=s.boot:=tk.2.2.1;rw[this];exact okb
 repeat' (refine Bb ?_;first|refine Q57 ?_|refine Q6p ?_|fail)
 refine Bb ?_
 refine Bx ?_
 refine Bb ?_
 refine Bz [0,1,2,3,4,5,6,7,8,9] [(10,[])] Q8O ?_
 repeat' (refine Bb ?_;first|refine Q55 ?_|fail)
 refine Bb ?_
 refine B7 [2,5] _ Q8O (fun h₂ hh=>jcp s.T ok.E now (s.C 7) Q8G ok.C7 2 5 h₂ ((hh 2 Q8R).trans rfl) ((hh 5 Q8R).trans rfl)) fun v ms hR=>?_
 rcases hR with ⟨_,rfl,rfl⟩|⟨cv,_,_,rfl,rfl⟩
 all_goals refine⟨by simp,?_⟩
 ·rcases qcv s.fv with hv|hv
  ·refine Q0A ?_;refine Bl (ql2 (s.nd g) ⟨1,0,0,0,0,0,0,0,0,0,0,0,0,0,0⟩ now fine s.bn s.bn Q8G Q9v okb 5 0 1 2 3 4 6 _ _ _ _ Q8I Q8I Q8I Q8I Q8I Q8I Q8I Q8H) fun v ms hR=>?_
   obtain⟨κ,hκ,rfl,hR⟩:=hR;rw[show(⟨1,0,0,0,0,0,0,0,0,0,0,0,0,0,0⟩:Frm)=jez s from by unfold jez;rw[hv];rfl] at hR;exact Q12
  ·refine Q0A ?_;refine Bl (ql2 (s.nd g) ⟨5,0,0,0,0,0,0,0,0,0,s.fx,s.fy,s.fa,s.fb,s.fd⟩ now fine s.bn s.bn Q8G Q9v okb 5 0 1 2 3 4 6 _ _ _ _ Q8I Q8I Q8I Q8I Q8I Q8I Q8I Q8H) fun v ms hR=>?_
   obtain⟨κ,hκ,rfl,hR⟩:=hR;rw[show(⟨5,0,0,0,0,0,0,0,0,0,s.fx,s.fy,s.fa,s.fb,s.fd⟩:Frm)=jez s from by unfold jez;rw[hv];rfl] at hR;exact Q12
 ·rcases qcv s.fv with hv|hv
  ·refine Q0A ?_;refine Bl (ql2 (s.nd g) ⟨1,0,0,0,0,0,0,0,0,0,0,0,0,0,0⟩ now fine s.bn s.bn Q8G Q9v okb 6 0 1 2 3 4 7 _ _ _ _ Q8I Q8I Q8I Q8I Q8I Q8I Q8I Q8H) fun v ms hR=>?_
   obtain⟨κ,hκ,rfl,hR⟩:=hR;rw[show(⟨1,0,0,0,0,0,0,0,0,0,0,0,0,0,0⟩:Frm)=jez s from by unfold jez;rw[hv];rfl] at hR;exact Q13
  ·refine Q0A ?_;refine Bl (ql2 (s.nd g) ⟨5,0,0,0,0,0,0,0,0,0,s.fx,s.fy,s.fa,s.fb,s.fd⟩ now fine s.bn s.bn Q8G Q9v okb 6 0 1 2 3 4 7 _ _ _ _ Q8I Q8I Q8I Q8I Q8I Q8I Q8I Q8H) fun v ms hR=>?_
   obtain⟨κ,hκ,rfl,hR⟩:=hR;rw[show(⟨5,0,0,0,0,0,0,0,0,0,s.fx,s.fy,s.fa,s.fb,s.fd⟩:Frm)=jez s from by unfold jez;rw[hv];rfl] at hR;exact Q13
open Go Go.RowKit Sx
theorem q5d {E:Ez} {hp:Hp} {n:Nat} (hh:hp[n]?=some (some (jhw true E cap))):PostC ix hp n (jhw true E cap):=⟨_,hh,id,nlr _,q1m⟩
def jq7 (s:NSt) (i K:Nat) (v:Value) (ms:Mz):Prop:=
 (s.T.E=[]/\v=rpV s.fv s.fx s.fy s.fa s.fb s.fd (.slice none 0 0)/\ms=[(i,ndP s)])\/∃ cap,0<s.T.E.length/\s.T.E.length<=cap/\v=rpV s.fv s.fx s.fy s.fa s.fb s.fd (.slice (some ⟨K,0,some 0⟩) s.T.E.length cap)/\ms=[(i,ndP s),(K,jhw true s.T.E cap)]
theorem qko (s:NSt) (hE:s.T.E.length<=64) (i K:Nat) (h:Hp) (hi:h[i]?=some (some (ndP s))) (hK:h[K]?=some none) :
  CallAll prog 15 [xd i] h (jq7 s i K):=by
 have key:=qaw (G:=tys) (h:=h) (vs:=[xd i]) (fun _:Rz=>True) (ndH s) (α:=Option Nat) (fun κ=>match κ with|none=>s.T.E=[]|some cap=>0<s.T.E.length/\s.T.E.length<=cap) (fun κ=>match κ with|none=>rpV s.fv s.fx s.fy s.fa s.fb s.fd (.slice none 0 0)|some cap=>rpV s.fv s.fx s.fy s.fa s.fb s.fd (.slice (some ⟨K,0,some 0⟩) s.T.E.length cap)) [⟨i,ndP s,ndP s,ndP s⟩] (fun _=>[ndP s]) (fun κ=>match κ with|none=>[]|some cap=>[⟨K,6,jhw true s.T.E cap⟩]) [xd 0] tysOK mixed func15 Q8I (call15) ⟨hi,xb⟩ ⟨Q6w,xb⟩ Q88 Q8N Q6A (fun κ hκ=>by
   cases κ with
   | none=>exact trivial
   | some cap=>exact⟨⟨hK,rfl,.inl Q9I,by simp⟩,xb⟩) ⟨.ptr rfl,xb⟩ qas ?_
 ·exact Q1M
 intro g _
 repeat' (refine Bb ?_;first|refine Q57 ?_|fail)
 refine Bb ?_
 refine Bx ?_
 refine Bb ?_
 refine Bz [0,1,2,3,5,6,7,8,10,11,12,13] [(4,[]),(9,[]),(14,[15,16])] Q8O ?_
 repeat' (refine Bb ?_;first|refine Q55 ?_|fail)
 refine Bb ?_
 refine B7 [1] _ Q8O (fun h₂ hh=>qc0 (qhi s.fm s.fv s.fx s.fy s.fa s.fb s.fd 1 h₂ ((hh 1 Q8R).trans rfl))) fun v ms hR=>?_
 obtain⟨rfl,rfl⟩:=hR
 refine⟨by simp,?_⟩
 repeat' (refine Bb ?_;first|refine Q55 ?_|fail)
 refine Bb ?_
 refine B7 [1] _ Q8O (fun h₂ hh=>qc0 (jpp s.fm s.fv s.fx s.fy s.fa s.fb s.fd 1 h₂ ((hh 1 Q8R).trans rfl))) fun v ms hR=>?_
 obtain⟨rfl,rfl⟩:=hR
 refine⟨by simp,?_⟩
 repeat' (refine Bb ?_;first|refine Q55 ?_|fail)
 refine Bb ?_
 refine B7 [2,6] _ Q8O (fun h₂ hh=>jiv s.T hE 2 6 h₂ ((hh 2 Q8R).trans rfl) ((hh 6 Q8R).trans rfl)) fun v ms hR=>?_
 rcases hR with ⟨hE0,rfl,rfl⟩|⟨cap,h1,h2,rfl,rfl⟩
 ·refine⟨by simp,?_⟩;repeat' (refine Bb ?_;first|refine Q55 ?_|refine Q6b ?_|fail)
  refine Bb ?_;refine qaz s g 0 1 2 3 4 [] qay Q6C Q8I rfl rfl rfl Q80 Q8I rfl rfl re7 Q8I Q8I rfl rfl re2 Q8I rfl rfl re2 Q8I (fun k hk=>by cases hk) (fun k hk=>by cases hk) (qbn rfl) ?_;refine Bo none ⟨hE0,?_⟩;refine Ba (by show Re _ (rpV s.fv s.fx s.fy s.fa s.fb s.fd (.slice none 0 0)) _;exact .plain rfl) ?_;refine Ba ⟨Q84,xb⟩ ?_;refine Ba xb ?_;refine Ba ⟨⟨.inr ⟨_,rfl,rfl⟩,xb⟩,xb⟩ ?_;exact Bg
 ·refine⟨by simp,?_⟩;repeat' (refine Bb ?_;first|refine Q55 ?_|refine Q6b ?_|fail)
  refine Bb ?_;refine qaz s g 0 1 2 3 4 [6] qay Q6C Q8I rfl rfl rfl Q80 Q8I rfl rfl re7 Q8I Q8I rfl rfl re2 Q8I rfl rfl re2 Q8I (fun k hk=>by simp at hk;omega) (fun k hk d hd l hl=>?_) Q6Y ?_
  ·obtain rfl:k=6:=by simpa using hk
   obtain rfl:jhw true s.T.E cap=d:=by simpa using hd
   exact qt5 hl
  refine Bo (some cap) ⟨⟨h1,h2⟩,?_⟩;refine Ba (by show Re _ (rpV s.fv s.fx s.fy s.fa s.fb s.fd (.slice (some ⟨K,0,some 0⟩) s.T.E.length cap)) _;exact .one (.agg ⟨.plain rfl,.plain rfl,.plain rfl,.plain rfl,.plain rfl,.plain rfl,.slice Q8I,xb⟩)) ?_;refine Ba ⟨Q84,xb⟩ ?_;refine Ba ⟨⟨xO rfl,q5d Q8I⟩,xb⟩ ?_;refine Ba Q6F ?_;exact Bg
abbrev noW:World:=default
theorem qkp:noW.heap.size=0:=rfl
theorem jds {X:Ctx} {ρ:Rz} {w:World} {i:Nat} (H:HOK X ρ h w) (hi:h[i]?=some (some c)) (ho:c.own=true):HOK X ρ (h.set i (some (memC noW []))) w:=by
 obtain⟨S,E⟩:=H.ext;refine H.turnX E hi (d:=memC noW []) (S':=fun _=>False) (fun _=>ho) (xm _) (nzj) rfl rfl rfl (nlr _) (fun b _ _=>rfl) (fun b hb=>hb.elim) ?_;refine⟨fun h=>absurd h (by rw[qkp];decide),fun b=>⟨fun h=>h.elim,fun h=>?_⟩,by rw[qkp];exact xm _,fun b hb=>absurd hb (by rw[qkp];exact xZ b),yz,fun e he=>by cases he⟩;rcases h with h|⟨e,he,_⟩
 ·rw[qkp] at h;exact absurd h (xZ b)
 ·cases he
theorem qm5 (i:Nat) (hi:h[i]?=some (some c)) (ho:c.own=true)
  (hc:CallAll P g vs (h.set i (some (memC noW []))) R) (hm:∀ v ms,R v ms->modH (h.set i (some (memC noW []))) ms=modH h ms):CallAll P g vs h R:=fun X ρ w xs H hx=>by
 have hil:=(xe.1 hi).1
 have fil:∀ j,Sx.Fil h j->Sx.Fil (h.set i (some (memC noW []))) j:=fun j hj=>hj.set
 have key:=hc X ρ w xs (jds H hi ho) (qig hx fun v _ x hd=>hd.more (AgreeOn.refl _ _) fil)
 have fix:∀ x w',(∃ v ms ρ',R v ms/\AgreeOn (Sx.Fil (h.set i (some (memC noW [])))) ρ ρ'/\HOK X ρ' (modH (h.set i (some (memC noW []))) ms) w'/\Den (Sx.Fil (modH (h.set i (some (memC noW []))) ms)) ρ' v x)->∃ v ms ρ',R v ms/\AgreeOn (Sx.Fil h) ρ ρ'/\HOK X ρ' (modH h ms) w'/\Den (Sx.Fil (modH h ms)) ρ' v x:=by
  rintro x w' ⟨v,ms,ρ',hr,ha,hh,hd⟩;rw[hm v ms hr] at hh hd;exact⟨v,ms,ρ',hr,fun j hj=>ha j (fil j hj),hh,hd⟩
 rcases key with ⟨x,w',h1,h2⟩|⟨h1,h2⟩
 ·exact .inl ⟨x,w',h1,fix _ _ h2⟩
 ·refine .inr ⟨h1,h2.mono ?_⟩;rintro e w' ⟨x,he,h3⟩;exact⟨x,he,fix _ _ h3⟩
open Go Go.RowKit Sx
theorem qm6 (s s':NSt) (L:List Ou) (ok:NdT s) (now fine:Int) (hT:TIn (s.T.ev now (s.C 7))) (ht:0<=now/\now<=1000000) (hr:je8 s now fine=(s',L)) (hL:L≠[]) (i K:Nat) (h:Hp) (hi:h[i]?=some (some (ndP s))) (hK:h[K]?=some none) :
  CallAll prog 9 [xd i,xc now,xc fine] h (fun v ms=>∃ κ:Nat,L.length<=κ/\v=.slice (some ⟨K,0,some 0⟩) L.length κ/\ms=[(i,ndP s'),(K,ouR L κ)]):=by
 by_cases hd:now<s.tx
 ·unfold je8 at hr;rw[if_pos hd] at hr;exact absurd (congrArg Prod.snd hr).symm hL
 ·unfold je8 at hr;rw[if_neg hd] at hr;have e1:=congrArg Prod.fst hr;have e2:=congrArg Prod.snd hr;simp only at e1 e2;subst e1 e2;exact jae s ok now fine hT ht hd i K h hi hK
structure jkw (s:NSt) (now:Int):Prop where
 ok:NdT s
 T:TIn (s.T.ev now (s.C 7))
abbrev C22:Nat->Int:=cf6 3 5 0 0 0 7
abbrev FA (far:Int):Int:=IntKind.i64.wrap (100+md far 5000)
abbrev RA (r:Int):Int:=IntKind.i64.wrap (2+md r 50)
abbrev SA (s:Int):Int:=IntKind.i64.wrap (2+md s 500)
abbrev WA (w:Int):Int:=md w 1000
abbrev n5 (w:Int):Int:=IntKind.i64.wrap (60000+w)
abbrev n6 (w:Int):Int:=IntKind.i64.wrap (80000+IntKind.i64.wrap (2*w))
abbrev n7 (w:Int):Int:=IntKind.i64.wrap (100000+IntKind.i64.wrap (3*w))
structure jp4 (a0 b0:NSt) (far w:Int) where
 b1:NSt
 a1:NSt
 a2:NSt
 a3:NSt
 a4:NSt
 b4:NSt
 u0:NSt
 u1:NSt
 u2:NSt
 v0:NSt
 v1:NSt
 x:Ou
 y0:Ou
 y1:Ou
 z0:Ou
 z1:Ou
 r2:Ou
 r3:Ou
 f4:Ou
 c1:Int
 d0:Int
 d1:Int
 e0:Int
 e1:Int
 c4:Int
 c5:Int
 kb:jkw b0 0
 tb:je8 b0 0 10=(b1,[x])
 ox:jfa x
 ha0:NdH a0
 h1:jd1 a0 (encF x.f) (atP x far) 1 20000=⟨a1,none,c1⟩
 ka1:jkw a1 1
 ta1:je8 a1 1 30000=(a2,[y0,y1])
 oy0:jfa y0
 oy1:jfa y1
 hb0:NdH b1
 hb1:NdH u1
 g0:jd1 b1 (encF y0.f) (atP y0 far) 1 40000=⟨u1,none,d0⟩
 g1:jd1 u1 (encF y1.f) (atP y1 far) 1 40000=⟨u2,some r2,d1⟩
 ka2:jkw a2 2
 ta2:je8 a2 2 50000=(a3,[z0,z1])
 oz0:jfa z0
 oz1:jfa z1
 hc0:NdH u2
 hc1:NdH v0
 k0:jd1 u2 (encF z0.f) (atP z0 far) 2 (n5 w)=⟨v0,none,e0⟩
 k1:jd1 v0 (encF z1.f) (atP z1 far) 2 (n5 w)=⟨v1,some r3,e1⟩
 or3:jfa r3
 kr:r3.f.k=3
 ha3:NdH a3
 h4:jd1 a3 (encF r3.f) (atP r3 far) 2 (n6 w)=⟨a4,some f4,c4⟩
 of4:jfa f4
 kf:f4.f.k=4
 hb3:NdH v1
 h5:jd1 v1 (encF f4.f) (atP f4 far) 2 (n7 w)=⟨b4,none,c5⟩
 E3:v1.T.E.length<=64
 E4:b4.T.E.length<=64
 valid:b4.fv=true
 holds:inP b4.fx b4.fy b4.fa b4.fb b4.fd far 0
 less:v1.fv=true->(if jed b4.fx b4.fy b4.fa b4.fb b4.fd then b4.fa+b4.fd else 0)<=(if jed v1.fx v1.fy v1.fa v1.fb v1.fd then v1.fa+v1.fd else 0)
structure jp5 (a0 b0:NSt) (far w:Int) where
 b1:NSt
 a1:NSt
 a2:NSt
 a3:NSt
 a4:NSt
 b4:NSt
 u0:NSt
 u1:NSt
 u2:NSt
 u3:NSt
 v0:NSt
 v1:NSt
 v2:NSt
 x:Ou
 y0:Ou
 y1:Ou
 y2:Ou
 z0:Ou
 z1:Ou
 z2:Ou
 r2:Ou
 r3:Ou
 f4:Ou
 c1:Int
 d0:Int
 d1:Int
 d2:Int
 e0:Int
 e1:Int
 e2:Int
 c4:Int
 c5:Int
 kb:jkw b0 0
 tb:je8 b0 0 10=(b1,[x])
 ox:jfa x
 ha0:NdH a0
 h1:jd1 a0 (encF x.f) (atP x far) 1 20000=⟨a1,none,c1⟩
 ka1:jkw a1 1
 ta1:je8 a1 1 30000=(a2,[y0,y1,y2])
 oy0:jfa y0
 oy1:jfa y1
 oy2:jfa y2
 hb0:NdH b1
 hb1:NdH u1
 hb2:NdH u2
 g0:jd1 b1 (encF y0.f) (atP y0 far) 1 40000=⟨u1,none,d0⟩
 g1:jd1 u1 (encF y1.f) (atP y1 far) 1 40000=⟨u2,none,d1⟩
 g2:jd1 u2 (encF y2.f) (atP y2 far) 1 40000=⟨u3,some r2,d2⟩
 ka2:jkw a2 2
 ta2:je8 a2 2 50000=(a3,[z0,z1,z2])
 oz0:jfa z0
 oz1:jfa z1
 oz2:jfa z2
 hc0:NdH u3
 hc1:NdH v0
 hc2:NdH v1
 k0:jd1 u3 (encF z0.f) (atP z0 far) 2 (n5 w)=⟨v0,none,e0⟩
 k1:jd1 v0 (encF z1.f) (atP z1 far) 2 (n5 w)=⟨v1,none,e1⟩
 k2:jd1 v1 (encF z2.f) (atP z2 far) 2 (n5 w)=⟨v2,some r3,e2⟩
 or3:jfa r3
 kr:r3.f.k=3
 ha3:NdH a3
 h4:jd1 a3 (encF r3.f) (atP r3 far) 2 (n6 w)=⟨a4,some f4,c4⟩
 of4:jfa f4
 kf:f4.f.k=4
 hb3:NdH v2
 h5:jd1 v2 (encF f4.f) (atP f4 far) 2 (n7 w)=⟨b4,none,c5⟩
 E3:v2.T.E.length<=64
 E4:b4.T.E.length<=64
 valid:b4.fv=true
 holds:inP b4.fx b4.fy b4.fa b4.fb b4.fd far 0
 less:v2.fv=true->(if jed b4.fx b4.fy b4.fa b4.fb b4.fd then b4.fa+b4.fd else 0)<=(if jed v2.fx v2.fy v2.fa v2.fb v2.fd then v2.fa+v2.fd else 0)
theorem jq8 (cx cy a b d x y:Int) (h:Hp):qaf prog 20 [.agg #[xc cx,xc cy,xc a,xc b,xc d],.agg #[xc x,xc y]] h (.bool (decide (inP cx cy a b d x y))) [] []:=qai rfl rfl (call20 _) (jqd cx cy a b d x y)
theorem qvl {c p n:Nat} (x:Ou) (hx:S.getD 0 Ou.oo=x) (h:0<c) (e:p=0) (hn:n=1:=by rfl):Reads (ouR S c) p false n (xc x.f.k):=by
 subst hx e hn;exact⟨by show 0<c*16;omega,rfl,jks (o:=true) (T:=fun i=>S.getD i Ou.oo) Q8G⟩
theorem qvm (x:Int) (h:0<=x/\x<=10000):qax 4194304 x 0:=by
 unfold qax;omega
theorem jo9 (far r s w:Int) (W:World) (q:jp4 (jej C22 0 0 true 0 0 (RA r*RA r) 0 (RA r*RA r)) (jej C22 1 0 false 0 0 0 0 0) (FA far) (WA w)) :
  xa 5 #[xc far,xc r,xc s,.bool true,xc w] W (.bool true):=by
 have f0:=jf3 far 5000 Q8H Q8H
 have f1:=jf3 r 50 Q8H Q8H
 have f2:=jf3 s 500 Q8H Q8H
 have f3:=jf3 w 1000 Q8H Q8H
 have eF:FA far=100+md far 5000:=jdx _ Q8G Q8G
 have eR:RA r=2+md r 50:=jdx _ Q8G Q8G
 have eS:SA s=2+md s 500:=jdx _ Q8G Q8G
 have mA:jed 0 0 (RA r*RA r) 0 (RA r*RA r):=qf1 (x:=0) (y:=0) (r:=RA r) Q8H Q8G
 have hC:=qu4 3 5 0 0 0 7
 have c10:C22 10=1000000000000:=rfl
 have r2:0<=RA r*RA r/\RA r*RA r<=51*51:=⟨xy Q8G Q8G,xS Q8G Q8G Q8G Q8G⟩
 have s2:0<=SA s*SA s/\SA s*SA s<=501*501:=⟨xy Q8G Q8G,xS Q8G Q8G Q8G Q8G⟩
 have hoA:¬ max 2 (C22 10)<RA r*RA r+RA r*RA r:=by rw[c10];omega
 refine qac (G:=tys) W tysOK mixed func5 Q8I rfl rfl ?_
 repeat' (refine Bb ?_;first|refine Q57 ?_|refine Q6f ?_|fail)
 refine Bb ?_
 refine Bj ?_
 repeat' (refine Bb ?_;first|refine Q57 ?_|refine Q6r ?_|refine Bc (q9a C22 hC 1 0 Q8H ⟨by decide,by decide⟩ 17 _ Q8I) ?_|fail)
 refine Bb ?_
 refine Bl (qm6 (jej C22 1 0 false 0 0 0 0 0) q.b1 [q.x] q.kb.ok 0 10 q.kb.T Q8H q.tb Q8R 17 18 _ Q8I Q8I) fun v ms hR=>?_
 obtain⟨κ1,hκ1,rfl,rfl⟩:=hR
 repeat' (refine Bb ?_;first|refine Q55 ?_|fail)
 refine Bb ?_
 refine Bl Q7i fun v ms hR=>?_
 obtain⟨B1,rfl,rfl⟩:=hR
 repeat' (refine Bb ?_;first|refine Q55 ?_|fail)
 refine Bb ?_
 refine Bl (qm6 q.a1 q.a2 [q.y0,q.y1] q.ka1.ok 1 30000 q.ka1.T Q8H q.ta1 Q8R 16 20 _ Q8I Q8I) fun v ms hR=>?_
 obtain⟨κ2,hκ2,rfl,rfl⟩:=hR
 repeat' (refine Bb ?_;first|refine Q55 ?_|fail)
 refine Bb ?_
 refine Bl (q1j noW B1 q.y0 q.y1 q.b1 q.u1 q.u2 κ2 hκ2 (FA far) 1 40000 q.oy0 q.hb0 q.oy1 q.hb1 q.d0 q.d1 q.r2 q.g0 q.g1 17 20 0 5 21 _ Q8I Q8I Q8I Q8I Q8I Q8H) fun v ms hR=>?_
 obtain⟨κ3,B2,hκ3,rfl,rfl⟩:=hR
 repeat' (refine Bb ?_;first|refine Q55 ?_|fail)
 refine Bb ?_
 refine Bl (qm6 q.a2 q.a3 [q.z0,q.z1] q.ka2.ok 2 50000 q.ka2.T Q8H q.ta2 Q8R 16 22 _ Q8I Q8I) fun v ms hR=>?_
 obtain⟨κ4,hκ4,rfl,rfl⟩:=hR
 repeat' (refine Bb ?_;first|refine Q55 ?_|fail)
 refine Bb ?_
 refine Bl (q1j noW B2 q.z0 q.z1 q.u2 q.v0 q.v1 κ4 hκ4 (FA far) 2 (n5 (WA w)) q.oz0 q.hc0 q.oz1 q.hc1 q.e0 q.e1 q.r3 q.k0 q.k1 17 22 0 5 23 _ Q8I Q8I Q8I Q8I Q8I Q8H) fun v ms hR=>?_
 obtain⟨κ5,B3,hκ5,rfl,rfl⟩:=hR
 repeat' (refine Bb ?_;first|refine Q55 ?_|fail)
 refine Bb ?_
 refine Bl Q7D fun v ms hR=>?_
 obtain⟨κ6,B4,hκ6,rfl,rfl⟩:=hR
 repeat' (refine Bb ?_;first|refine Q55 ?_|refine Q66 ?_|fail)
 refine Bb ?_
 refine Bl (qko q.v1 q.E3 17 25 _ Q8I Q8I) fun v ms hR=>?_
 rcases hR with ⟨hE,rfl,rfl⟩|⟨cw,hw1,hw2,rfl,rfl⟩
 all_goals
  repeat' (refine Bb ?_;first|refine Q55 ?_|fail)
  refine Bb ?_
  refine Bl (qoy noW B4 q.f4 q.v1 q.b4 κ6 hκ6 (FA far) 2 (n7 (WA w)) q.of4 q.hb3 q.c5  q.h5 17 24 0 5 27 _ Q8I Q8I Q8I Q8I Q8I Q8H) fun v ms hR=>?_
  obtain⟨B5,rfl,rfl⟩:=hR
  repeat' (refine Bb ?_;first|refine Q55 ?_|fail)
  refine Bb ?_
  refine Bl (qko q.b4 q.E4 17 28 _ Q8I Q8I) fun v ms hR=>?_
  rcases hR with ⟨hE,rfl,rfl⟩|⟨cn,hn1,hn2,rfl,rfl⟩
 all_goals
  rcases qcv q.v1.fv with hv|hv
 all_goals
  repeat' (refine Bb ?_;first|refine Q55 ?_|refine Q5I ?_|fail)
 all_goals rfl
theorem jpa (far r s w:Int) (W:World) (q:jp5 (jej C22 0 0 true 0 0 (RA r*RA r) 0 (RA r*RA r)) (jej C22 1 0 true (FA far) 0 (SA s*SA s) 0 (SA s*SA s)) (FA far) (WA w)) :
  xa 5 #[xc far,xc r,xc s,.bool false,xc w] W (.bool true):=by
 have f0:=jf3 far 5000 Q8H Q8H
 have f1:=jf3 r 50 Q8H Q8H
 have f2:=jf3 s 500 Q8H Q8H
 have f3:=jf3 w 1000 Q8H Q8H
 have eF:FA far=100+md far 5000:=jdx _ Q8G Q8G
 have eR:RA r=2+md r 50:=jdx _ Q8G Q8G
 have eS:SA s=2+md s 500:=jdx _ Q8G Q8G
 have mA:jed 0 0 (RA r*RA r) 0 (RA r*RA r):=qf1 (x:=0) (y:=0) (r:=RA r) Q8H Q8G
 have hC:=qu4 3 5 0 0 0 7
 have c10:C22 10=1000000000000:=rfl
 have r2:0<=RA r*RA r/\RA r*RA r<=51*51:=⟨xy Q8G Q8G,xS Q8G Q8G Q8G Q8G⟩
 have s2:0<=SA s*SA s/\SA s*SA s<=501*501:=⟨xy Q8G Q8G,xS Q8G Q8G Q8G Q8G⟩
 have hoA:¬ max 2 (C22 10)<RA r*RA r+RA r*RA r:=by rw[c10];omega
 have hoB:¬ max 2 (C22 10)<SA s*SA s+SA s*SA s:=by rw[c10];omega
 have mB:jed (FA far) 0 (SA s*SA s) 0 (SA s*SA s):=qf1 (x:=FA far) (y:=0) (r:=SA s) (qvm _ Q8G) Q8G
 refine qac (G:=tys) W tysOK mixed func5 Q8I rfl rfl ?_
 repeat' (refine Bb ?_;first|refine Q57 ?_|refine Q6f ?_|fail)
 refine Bb ?_
 refine Bj ?_
 repeat' (refine Bb ?_;first|refine Q57 ?_|refine Q6r ?_|refine Bc (qlt C22 hC 1 0 Q8H ⟨by decide,by decide⟩ (FA far) 0 (SA s*SA s) 0 (SA s*SA s) mB hoB 17 _ Q8I) ?_|fail)
 refine Bb ?_
 refine Bl (qm6 (jej C22 1 0 true (FA far) 0 (SA s*SA s) 0 (SA s*SA s)) q.b1 [q.x] q.kb.ok 0 10 q.kb.T Q8H q.tb Q8R 17 18 _ Q8I Q8I) fun v ms hR=>?_
 obtain⟨κ1,hκ1,rfl,rfl⟩:=hR
 repeat' (refine Bb ?_;first|refine Q55 ?_|fail)
 refine Bb ?_
 refine Bl Q7i fun v ms hR=>?_
 obtain⟨B1,rfl,rfl⟩:=hR
 repeat' (refine Bb ?_;first|refine Q55 ?_|fail)
 refine Bb ?_
 refine Bl (qm6 q.a1 q.a2 [q.y0,q.y1,q.y2] q.ka1.ok 1 30000 q.ka1.T Q8H q.ta1 Q8R 16 20 _ Q8I Q8I) fun v ms hR=>?_
 obtain⟨κ2,hκ2,rfl,rfl⟩:=hR
 repeat' (refine Bb ?_;first|refine Q55 ?_|fail)
 refine Bb ?_
 refine Bl (q1k noW B1 q.y0 q.y1 q.y2 q.b1 q.u1 q.u2 q.u3 κ2 hκ2 (FA far) 1 40000 q.oy0 q.hb0 q.oy1 q.hb1 q.oy2 q.hb2 q.d0 q.d1 q.d2 q.r2 q.g0 q.g1 q.g2 17 20 0 5 21 _ Q8I Q8I Q8I Q8I Q8I Q8H) fun v ms hR=>?_
 obtain⟨κ3,B2,hκ3,rfl,rfl⟩:=hR
 repeat' (refine Bb ?_;first|refine Q55 ?_|fail)
 refine Bb ?_
 refine Bl (qm6 q.a2 q.a3 [q.z0,q.z1,q.z2] q.ka2.ok 2 50000 q.ka2.T Q8H q.ta2 Q8R 16 22 _ Q8I Q8I) fun v ms hR=>?_
 obtain⟨κ4,hκ4,rfl,rfl⟩:=hR
 repeat' (refine Bb ?_;first|refine Q55 ?_|fail)
 refine Bb ?_
 refine Bl (q1k noW B2 q.z0 q.z1 q.z2 q.u3 q.v0 q.v1 q.v2 κ4 hκ4 (FA far) 2 (n5 (WA w)) q.oz0 q.hc0 q.oz1 q.hc1 q.oz2 q.hc2 q.e0 q.e1 q.e2 q.r3 q.k0 q.k1 q.k2 17 22 0 5 23 _ Q8I Q8I Q8I Q8I Q8I Q8H) fun v ms hR=>?_
 obtain⟨κ5,B3,hκ5,rfl,rfl⟩:=hR
 repeat' (refine Bb ?_;first|refine Q55 ?_|fail)
 refine Bb ?_
 refine Bl Q7D fun v ms hR=>?_
 obtain⟨κ6,B4,hκ6,rfl,rfl⟩:=hR
 repeat' (refine Bb ?_;first|refine Q55 ?_|refine Q66 ?_|fail)
 refine Bb ?_
 refine Bl (qko q.v2 q.E3 17 25 _ Q8I Q8I) fun v ms hR=>?_
 rcases hR with ⟨hE,rfl,rfl⟩|⟨cw,hw1,hw2,rfl,rfl⟩
 all_goals
  repeat' (refine Bb ?_;first|refine Q55 ?_|fail)
  refine Bb ?_
  refine Bl (qoy noW B4 q.f4 q.v2 q.b4 κ6 hκ6 (FA far) 2 (n7 (WA w)) q.of4 q.hb3 q.c5  q.h5 17 24 0 5 27 _ Q8I Q8I Q8I Q8I Q8I Q8H) fun v ms hR=>?_
  obtain⟨B5,rfl,rfl⟩:=hR
  repeat' (refine Bb ?_;first|refine Q55 ?_|fail)
  refine Bb ?_
  refine Bl (qko q.b4 q.E4 17 28 _ Q8I Q8I) fun v ms hR=>?_
  rcases hR with ⟨hE,rfl,rfl⟩|⟨cn,hn1,hn2,rfl,rfl⟩
 all_goals
  rcases qcv q.v2.fv with hv|hv
 all_goals
  repeat' (refine Bb ?_;first|refine Q55 ?_|refine Q5I ?_|fail)
 all_goals rfl
def EN (k h:Int) (has:Bool) (g:El) (w:Int):Ent:=⟨k,0,h,has,g.x,g.y,g.a,g.b,g.d,w⟩
def jpb (k:Int) (W:Win):Int->Option jf2:=setL (fun _=>none) k ⟨0,false,W⟩
def T1 (k:Int) (e:Ent) (W:Win):Tbl:=⟨6,[(k,e)],jpb k W⟩
def T0:Tbl:=Tbl.new 6
def mkN (id seq told asked:Int) (v:Bool) (e:El) (T:Tbl) (bl tx:Int) (S:Nat->Ses):NSt:=⟨C22,id,0,seq,told,asked,0,1000000000000,v,e.x,e.y,e.a,e.b,e.d,T,8,bl,1,tx,S⟩
theorem qwz (lv:Int->Option jf2) (n:Int) (a b:jf2):setL (setL lv n a) n b=setL lv n b:=by
 funext m;unfold setL;split<;>rfl
theorem qh5 (k:Int) (e:Ent):dGet [(k,e)] k=some e:=by simp[dGet]
theorem q1q (k:Int) (e e':Ent):dPut [(k,e)] k e'=[(k,e')]:=by unfold dPut;rw[qh5];simp
theorem qs6 (k:Int) (e:Ent):entT [(k,e)] 0=e:=by
 unfold entT;rw[show sortK [(k,e)]=[k] from by simp[sortK]];show(dGet [(k,e)] k).getD Ent.zero=e;rw[qh5];rfl
variable {k:Int}
theorem qm7 {q:Int} (ha:qde k 0 q now):jd9 T0 k 0 q now=(0,T1 k (EN k now false El.o 0) ⟨true,q,1⟩):=by
 unfold jd9;rw[if_pos ha];show(0,Tbl.mk _ _ _)=_;have e1:qfo 6 [] k 0 now=[(k,EN k now false El.o 0)]:=by
  unfold qfo;rw[if_neg (by rintro⟨_,h⟩;exact absurd h Q8H)];rfl
 exact Prod.ext rfl (by show Tbl.mk 6 (qfo 6 [] k 0 now) _=_;rw[e1];rfl)
variable {w:Int} {has:Bool} {W:Win}
theorem qg2 {q h:Int} {g:El} {W':Win} (ha:qde k 0 q now) (hw:whear W q=(0,W')):jd9 (T1 k (EN k h has g w) W) k 0 q now=(0,T1 k (EN k now has g w) W'):=by
 unfold jd9;rw[if_pos ha];have e1:(T1 k (EN k h has g w) W).lives k=some ⟨0,false,W⟩:=by show jpb k W k=_;unfold jpb setL;exact if_pos rfl
 rw[e1];simp only;rw[if_pos xb,if_neg Q8H,hw,if_pos rfl];have e2:qfo 6 [(k,EN k h has g w)] k 0 now=[(k,EN k now has g w)]:=by
  unfold qfo;rw[if_neg (by rw[qh5];rintro⟨h,_⟩;cases h),qh5,q1q];rfl
 exact Prod.ext rfl (by show Tbl.mk 6 (qfo 6 [(k,EN k h has g w)] k 0 now) (setL (setL _ k _) k _)=_;rw[e2,qwz];rfl)
variable {f:Frm}
theorem qf5 {s:NSt} {at_:Int} {T':Tbl} (ht:0<=now/\now<=1000000) (hin:jl4 f) (hm:f.may) (hid:¬ f.s=s.id) (hf:qdj f.st now (s.C 6) (s.C 4)=0) (hh:jd9 s.T f.s f.b f.q now=(0,T')) :
  jd1 s (encF f) at_ now fine=⟨s.hr (s.tk T' f at_ now fine),(s.tk T' f at_ now fine).o,0⟩:=by
 unfold jd1
 rw[jab f hin hm,if_neg (not_not_intro ht),if_neg (not_not_intro rfl)]
 simp only
 rw[if_neg hid,if_neg (not_not_intro hf),hh,if_neg (not_not_intro rfl)]
variable {F:Fil}
theorem qvn {at_:Int} (hk:f.k=5):jet D l F T m f at_ now fine=D.no l F (jhq D.C T f.s f.el f.st now):=by unfold jet;rw[if_pos hk]
theorem q5e {at_:Int} (hk:f.k=6):jet D l F T m f at_ now fine=D.no l (qbp D F T f now).1 (qbp D F T f now).2:=by unfold jet;rw[if_neg Q9i,if_pos hk]
theorem q5f {at_:Int} (hk:f.k=1):jet D l F T m f at_ now fine=D.no l F T:=by unfold jet;rw[if_neg Q9i,if_neg Q9i,if_neg Q9i,if_neg Q9i]
theorem qo2 {at_:Int} (hk:f.k=2\/f.k=3\/f.k=4) (hd:f.ds=D.id):jet D l F T m f at_ now fine=qbk D l F T m f at_ now fine:=by
 unfold jet;rw[if_neg Q8G,if_neg Q8G,if_pos hk,if_pos hd]
variable {e:El}
theorem qs7 (he:e.may) (hw:qbc w) (hn:qbc now):qb2 e w now (C22 2) (C22 4)=(e,0):=by
 have c2:C22 2=0:=rfl;have c4:C22 4=1:=rfl;rw[c2,c4];unfold qb2;rw[if_pos ⟨he,hw,hn,by decide,by decide,by decide⟩];have h0:=qlw w now 1;unfold jga;rw[if_pos ⟨he,by decide,h0⟩,if_neg (fun h=>by
  have:0<=(4194304:Int) / qeu w now 1:=Int.ediv_nonneg Q8H h0;omega),Int.zero_mul]
 unfold qes;rw[if_pos ⟨he,by decide,by decide⟩,if_pos rfl]
theorem qrn {h:Int} {g:El} (hg:has=true->g.may) (hw:qbc w) (hn:qbc now):qcw C22 (T1 k (EN k h has g w) W) k now=if has=true then (g,true) else (El.o,false):=by
 unfold qcw;rw[show dGet (T1 k (EN k h has g w) W).E k=some (EN k h has g w) from qh5 _ _];cases has with
 | true=>
  rw[show(if (true:Bool)=true then (g,true) else (El.o,false))=(g,true) from if_pos rfl];show(if (EN k h true g w).has=true then ((qb2 (EN k h true g w).el (EN k h true g w).when_ now (C22 2) (C22 4)).1,decide ((qb2 (EN k h true g w).el (EN k h true g w).when_ now (C22 2) (C22 4)).2=0)) else (El.o,false))=(g,true);rw[if_pos (show(EN k h true g w).has=true from rfl),show(EN k h true g w).el=g from rfl,show(EN k h true g w).when_=w from rfl,qs7 (hg rfl) hw hn];rfl
 | false=>rfl
theorem qro {h w':Int} {g:El} (hg:has=true->g.may) (he:e.may) (hw:qbc w) (hw':qbc w') (hn:qbc now):jhq C22 (T1 k (EN k h has g w) W) k e w' now=T1 k (EN k h true (if has=true then (qev g e).1 else e) now) W:=by
 unfold jhq;rw[qs7 he hw' hn,if_pos rfl,qrn hg hw hn];unfold Tbl.keep;rw[show dGet (T1 k (EN k h has g w) W).E k=some (EN k h has g w) from qh5 _ _];show Tbl.mk 6 (dPut [(k,EN k h has g w)] k _) _=_;rw[q1q];cases has<;>rfl
theorem jje (h:now<30):T.ev now 30=T:=by
 have h0:∀ x,evP now 30 x=false:=fun x=>by unfold evP;rw[xf Q8G];rfl
 have h1:∀ r,evE T.E (evP now 30) r=T.E:=fun r=>by
  induction r with
  | zero=>rfl
  | succ r ih=>unfold evE;rw[h0,if_neg Q8H,ih]
 unfold Tbl.ev;rw[h1]
theorem q1r {h:Int} {g:El}:jht [(k,EN k h has g w)] (·.has)=if has=true then [k] else []:=by
 show(if (entT [(k,EN k h has g w)] 0).has=true then []++[(entT [(k,EN k h has g w)] 0).node] else [])=_;rw[qs6];cases has<;>rfl
theorem q1s {e:Ent}:jht [(k,e)] (fun _=>true)=[e.node]:=by
 show(if true=true then []++[(entT [(k,e)] 0).node] else [])=_;rw[qs6];rfl
theorem qo3 (a k:Int):jeq a [k]=(k,true):=by
 unfold jeq nxF;simp only[List.foldl_cons,List.foldl_nil,NxS.step,true_or,if_true];by_cases h:a<k
 ·simp[h]
 ·simp[h]
theorem jjf {h:Int} {g:El} (hk:0<=k/\k<64):TIn (T1 k (EN k h has g w) W):=fun i hi=>by
 have hi:i<1:=hi;obtain rfl:i=0:=by omega
 have e:entT (T1 k (EN k h has g w) W).E 0=EN k h has g w:=qs6 _ _;rw[e];exact hk
theorem jl7:TIn T0:=fun i hi=>absurd hi (xZ i)
theorem jjg:TOK T0:=(jas 6).1
theorem jfn {e:Ent} (h:W.seen<18446744073709551616):TOK (T1 k e W):=by
 refine⟨⟨by show(1:Int)<=6;decide,by show(6:Int)<=64;decide⟩,by show((1:Nat):Int)<=6;decide,fun n l hl=>?_⟩;have hl:setL (fun _=>none) k ⟨0,false,W⟩ n=some l:=hl;unfold setL at hl;split at hl
 ·obtain rfl:=Option.some.inj hl;exact h
 ·cases hl
open Go Go.RowKit Sx
def jfb (id seq now fine:Int) (v:Bool) (e:El):Ou:=⟨if v=true then ⟨5,id,0,seq,now,0,0,0,0,0,e.x,e.y,e.a,e.b,e.d⟩ else ⟨1,id,0,seq,now,0,0,0,0,0,0,0,0,0,0⟩,fine⟩
def jf5 (id seq now fine k w:Int) (g:El):Ou:=⟨⟨6,id,0,seq,now,0,0,0,k,w,g.x,g.y,g.a,g.b,g.d⟩,fine⟩
def jf0 (id seq now fine k:Int):Ou:=⟨⟨2,id,0,seq,now,k,0,0,0,0,0,0,0,0,0⟩,fine⟩
def jf1 (id seq now fine k mk:Int):Ou:=⟨⟨3,id,0,seq,now,k,mk,0,0,0,0,0,0,0,0⟩,fine⟩
def jg9 (id seq now fine k r a mk:Int):Ou:=⟨⟨4,id,0,seq,now,k,r,a,0,mk,0,0,0,0,0⟩,fine⟩
theorem q1t (id seq told asked:Int) (v:Bool) (e:El) (T:Tbl) (bl tx:Int) (S:Nat->Ses) (g:Rz) (now fine:Int):(⟨(jez (mkN id seq told asked v e T bl tx S)).by ((mkN id seq told asked v e T bl tx S).nd g) now,fine⟩:Ou)=jfb id seq now fine v e:=by
 unfold jfb jez;cases v<;>rfl
variable {seq:Int} {v:Bool}
theorem qm8 {id told asked:Int} {bl tx:Int} {S:Nat->Ses} (h:¬ now<tx) (h30:now<30) :
  je8 (mkN id seq told asked v e T0 bl tx S) now fine=(mkN id (seq+1) told asked v e T0 7 (now+1) S,[jfb id seq now fine v e]):=by
 have hev:T0.ev now 30=T0:=jje h30
 have htl:∀ g,(mkN id seq told asked v e T0 bl tx S).tl g now fine=⟨((mkN id seq told asked v e T0 bl tx S).nd g).up,7,none⟩:=fun g=>by
  show jec _ (8-1) (T0.ev now 30) now fine=_;rw[hev];unfold jec;rw[if_pos (show T0.E=[] from rfl)];rfl
 have hak:∀ g,(mkN id seq told asked v e T0 bl tx S).ask g now fine=⟨((mkN id seq told asked v e T0 bl tx S).nd g).up,7,none⟩:=fun g=>by
  unfold NSt.ask;rw[htl];show jff _ 7 (T0.ev now 30) now fine=_;rw[hev];unfold jff;rw[if_pos (show T0.E=[] from rfl)]
 unfold je8
 rw[if_neg (show ¬ now<(mkN id seq told asked v e T0 bl tx S).tx from h)]
 refine Prod.ext ?_ ?_
 ·unfold NSt.ticked;rw[hak];show NSt.mk _ _ _ _ _ _ _ _ _ _ _ _ _ _ (T0.ev now 30) _ _ _ _ _=_;rw[hev];rfl
 ·unfold jer;rw[hak,htl,q1t];rfl
theorem q6x {e:Ent}:¬ (T1 k e W).E=[]:=fun h=>by cases h
theorem qvo {id told asked hd:Int} {g:El} {bl tx:Int} {S:Nat->Ses} (h:¬ now<tx) (h30:now<30) :
  je8 (mkN id seq told asked v e (T1 k (EN k hd false g w) W) bl tx S) now fine=(mkN id (seq+2) told k v e (T1 k (EN k hd false g w) W) 6 (now+1) (upd S k.toNat ((S k.toNat).poll fine (0*65536+(seq+1)))),[jfb id seq now fine v e,jf0 id (seq+1) now fine k]):=by
 generalize hTT:T1 k (EN k hd false g w) W=TT
 have hev:TT.ev now 30=TT:=jje h30
 have hne:¬ TT.E=[]:=by rw[<-hTT];exact q6x
 have htl:∀ g',(mkN id seq told asked v e TT bl tx S).tl g' now fine=⟨((mkN id seq told asked v e TT bl tx S).nd g').up,7,none⟩:=fun g'=>by
  show jec _ (8-1) (TT.ev now 30) now fine=_;rw[hev];unfold jec;rw[if_neg hne];have hk:jdz ((mkN id seq told asked v e TT bl tx S).nd g').up TT=(0,false):=by
   unfold jdz;rw[<-hTT];show jeq _ (jht [(k,EN k hd false g w)] (·.has))=_;rw[q1r];rfl
  rw[hk,if_pos rfl];rfl
 have hpk:∀ D:NdS,jee D TT=k:=fun D=>by
  unfold jee;rw[<-hTT];show(jeq _ (jht [(k,EN k hd false g w)] fun _=>true)).1=_;rw[q1s,qo3];rfl
 have hak:∀ g',(mkN id seq told asked v e TT bl tx S).ask g' now fine=⟨((mkN id seq told asked v e TT bl tx S).nd g').up.ta told k (seq+1+1) (upd S k.toNat ((S k.toNat).poll fine (0*65536+(seq+1)))),6,some (jf0 id (seq+1) now fine k)⟩:=fun g'=>by
  unfold NSt.ask;rw[htl];show jff _ 7 (TT.ev now 30) now fine=_;rw[hev];unfold jff;rw[if_neg hne,if_neg Q8H,hpk];rfl
 unfold je8
 rw[if_neg (show ¬ now<(mkN id seq told asked v e TT bl tx S).tx from h)]
 refine Prod.ext ?_ ?_
 ·unfold NSt.ticked;rw[hak];show NSt.mk _ _ _ (seq+1+1) _ _ _ _ _ _ _ _ _ _ (TT.ev now 30) _ _ _ _ _=_;rw[hev,show seq+1+1=seq+2 from by omega];rfl
 ·unfold jer;rw[hak,htl,q1t];rfl
theorem qm9 {id told asked hd:Int} {g:El} {bl tx:Int} {S:Nat->Ses} (h:¬ now<tx) (h30:now<30) (hki:¬ k=id) (hw:w<=now) :
  je8 (mkN id seq told asked v e (T1 k (EN k hd true g w) W) bl tx S) now fine=(mkN id (seq+3) k k v e (T1 k (EN k hd true g w) W) 5 (now+1) (upd S k.toNat ((S k.toNat).poll fine (0*65536+(seq+2)))),[jfb id seq now fine v e,jf5 id (seq+1) now fine k w g,jf0 id (seq+2) now fine k]):=by
 generalize hTT:T1 k (EN k hd true g w) W=TT
 have hev:TT.ev now 30=TT:=jje h30
 have hne:¬ TT.E=[]:=by rw[<-hTT];exact q6x
 have hget:TT.get k=EN k hd true g w:=by rw[<-hTT];show(dGet [(k,EN k hd true g w)] k).getD Ent.zero=_;rw[qh5];rfl
 have htl:∀ g',(mkN id seq told asked v e TT bl tx S).tl g' now fine=⟨((mkN id seq told asked v e TT bl tx S).nd g').up.ta k asked (seq+1+1) S,6,some (jf5 id (seq+1) now fine k w g)⟩:=fun g'=>by
  show jec _ (8-1) (TT.ev now 30) now fine=_;rw[hev];unfold jec;rw[if_neg hne];have hk:jdz ((mkN id seq told asked v e TT bl tx S).nd g').up TT=(k,true):=by
   unfold jdz;rw[<-hTT];show jeq _ (jht [(k,EN k hd true g w)] (·.has))=_;rw[q1r,if_pos rfl,qo3]
  rw[hk,if_neg Q8R,if_neg (by
   show ¬ (k=id\/¬ (TT.get k).when_<=now);rw[hget];rintro(h1|h1)
   ·exact hki h1
   ·exact h1 hw),if_neg Q8H]
  show TlS.mk _ _ (some ⟨(jms k (TT.get k)).by _ now,fine⟩)=_;rw[hget];rfl
 have hpk:∀ D:NdS,jee D TT=k:=fun D=>by
  unfold jee;rw[<-hTT];show(jeq _ (jht [(k,EN k hd true g w)] fun _=>true)).1=_;rw[q1s,qo3];rfl
 have hak:∀ g',(mkN id seq told asked v e TT bl tx S).ask g' now fine=⟨((mkN id seq told asked v e TT bl tx S).nd g').up.ta k k (seq+1+1+1) (upd S k.toNat ((S k.toNat).poll fine (0*65536+(seq+1+1)))),5,some (jf0 id (seq+1+1) now fine k)⟩:=fun g'=>by
  unfold NSt.ask;rw[htl];show jff _ 6 (TT.ev now 30) now fine=_;rw[hev];unfold jff;rw[if_neg hne,if_neg Q8H,hpk];rfl
 unfold je8
 rw[if_neg (show ¬ now<(mkN id seq told asked v e TT bl tx S).tx from h)]
 refine Prod.ext ?_ ?_
 ·unfold NSt.ticked;rw[hak];show NSt.mk _ _ _ (seq+1+1+1) _ _ _ _ _ _ _ _ _ _ (TT.ev now 30) _ _ _ _ (upd S k.toNat ((S k.toNat).poll fine (0*65536+(seq+1+1))))=_;rw[hev,show seq+1+1+1=seq+3 from by omega,show seq+1+1=seq+2 from by omega];rfl
 ·unfold jer;rw[hak,htl,q1t,show seq+1+1=seq+2 from by omega];rfl
abbrev okI (n:Int):Prop:=0<=n/\n<64
abbrev okQ (n:Int):Prop:=0<=n/\n<=65535
abbrev okT (n:Int):Prop:=0<=n/\n<=1000000
theorem q6y (h:e.may):(-2147483648<=e.x/\e.x<2147483648)/\(-2147483648<=e.y/\e.y<2147483648)/\Fi e.a/\Fi e.b/\Fi e.d:=by
 obtain⟨⟨h1,h2⟩,h3,h4,h5,_⟩:=h;exact⟨by omega,by omega,⟨by omega,by omega⟩,⟨by omega,by omega⟩,⟨by omega,by omega⟩⟩
theorem z1:(0:Int)<=0/\(0:Int)<256:=by decide
theorem z2:(0:Int)<=0/\(0:Int)<=65535:=by decide
theorem z3:Fi 0:=⟨by decide,by decide⟩
theorem z4:(-2147483648:Int)<=0/\(0:Int)<2147483648:=by decide
theorem qi7 {id:Int} (hi:okI id) (hq:okQ seq) (ht:okT now) (he:v=true->e.may):jfa (jfb id seq now fine v e):=by
 have hst:Fi now:=⟨by omega,by omega⟩;have hs:0<=id/\id<256:=⟨hi.1,by omega⟩;cases v with
 | true=>
  obtain⟨m1,m2,m3,m4,m5⟩:=q6y (he rfl);refine⟨⟨(by decide:(0:Int)<=5/\(5:Int)<256),hs,z1,z1,z2,hq,hst,z3,z3,z3,m1,m2,m3,m4,m5⟩,?_,⟨hi,z2,hq,ht⟩,?_⟩
  ·show Frm.own ⟨5,_,_,_,_,_,_,_,_,_,_,_,_,_,_⟩;simp[Frm.own];exact he rfl
  ·show Frm.bare (Frm.rest ⟨5,_,_,_,_,_,_,_,_,_,_,_,_,_,_⟩);simp[Frm.rest,Frm.bare]
 | false=>
  refine⟨⟨(by decide:(0:Int)<=1/\(1:Int)<256),hs,z1,z1,z2,hq,hst,z3,z3,z3,z4,z4,z3,z3,z3⟩,?_,⟨hi,z2,hq,ht⟩,?_⟩
  ·show Frm.own ⟨1,_,_,_,_,_,_,_,_,_,_,_,_,_,_⟩;simp[Frm.own]
  ·show Frm.bare (Frm.rest ⟨1,_,_,_,_,_,_,_,_,_,_,_,_,_,_⟩);simp[Frm.rest,Frm.bare]
theorem q1u {id:Int} {g:El} (hi:okI id) (hq:okQ seq) (ht:okT now) (hk:okI k) (hki:¬ k=id) (hw:0<=w/\w<=now) (he:g.may):jfa (jf5 id seq now fine k w g):=by
 obtain⟨m1,m2,m3,m4,m5⟩:=q6y he;have hst:Fi now:=⟨by omega,by omega⟩;have hs:0<=id/\id<256:=⟨hi.1,by omega⟩;have hk2:0<=k/\k<256:=⟨hk.1,by omega⟩;have hw2:Fi w:=⟨by omega,by omega⟩;refine⟨⟨(by decide:(0:Int)<=6/\(6:Int)<256),hs,z1,hk2,z2,hq,hst,z3,z3,hw2,m1,m2,m3,m4,m5⟩,?_,⟨hi,z2,hq,ht⟩,?_⟩
 ·show Frm.own ⟨6,_,_,_,_,_,_,_,_,_,_,_,_,_,_⟩;simp[Frm.own];exact⟨hk,hki,hw,he⟩
 ·show Frm.bare (Frm.rest ⟨6,_,_,_,_,_,_,_,_,_,_,_,_,_,_⟩);simp[Frm.rest,Frm.bare]
theorem qg3 {kd id a b c:Int} (hkd:kd=2\/kd=3\/kd=4) (hi:okI id) (hq:okQ seq) (ht:okT now) (hk:okI k) (hki:¬ k=id) (ha:0<=a/\a<=70368744177664) (hb:0<=b/\b<=70368744177664) (hc:0<=c/\c<=4294967295) (h2:kd=2->a=0/\b=0/\c=0) (h3:kd=3->b=0/\c=0/\a<=4294967295):jfa ⟨⟨kd,id,0,seq,now,k,a,b,0,c,0,0,0,0,0⟩,fine⟩:=by
 have hst:Fi now:=⟨by omega,by omega⟩;have hs:0<=id/\id<256:=⟨hi.1,by omega⟩;have hk2:0<=k/\k<256:=⟨hk.1,by omega⟩;have hkd2:0<=kd/\kd<256:=by omega
 have fa:Fi a:=⟨by omega,by omega⟩;have fb:Fi b:=⟨by omega,by omega⟩;have fc:Fi c:=⟨by omega,by omega⟩;refine⟨⟨hkd2,hs,hk2,z1,z2,hq,hst,fa,fb,fc,z4,z4,z3,z3,z3⟩,?_,⟨hi,z2,hq,ht⟩,?_⟩
 ·rcases hkd with rfl|rfl|rfl
  ·simp[Frm.own];exact⟨hk,hki⟩
  ·simp[Frm.own];exact⟨hk,hki,ha.1,(h3 rfl).2.2⟩
  ·simp[Frm.own];exact⟨hk,hki,ha,hb,hc⟩
 ·rcases hkd with rfl|rfl|rfl
  ·obtain⟨rfl,rfl,rfl⟩:=h2 rfl;simp[Frm.rest,Frm.bare]
  ·obtain⟨rfl,rfl,_⟩:=h3 rfl;simp[Frm.rest,Frm.bare]
  ·simp[Frm.rest,Frm.bare]
section
variable {id seq told asked:Int} {v:Bool} {e:El} {bl tx:Int} {S:Nat->Ses} {k q st now at_ fine t:Int} {h w:Int} {has:Bool} {g g2:El} {W W':Win}
theorem ql7 (hid:¬ k=id) (hk:okI k) (hq:okQ q) (hst:okT st) (hn:okT now) (hg:g.may) (hf:qdj st now 50 1=0) :
  jd1 (mkN id seq told asked v e T0 bl tx S) (encF (jfb k q st t true g).f) at_ now fine=⟨mkN id seq told asked v e (T1 k (EN k now true g now) ⟨true,q,1⟩) bl tx S,none,0⟩:=by
 have ho:=qi7 (fine:=t) (v:=true) hk hq hst fun _=>hg
 rw[qf5 (s:=mkN id seq told asked v e T0 bl tx S) hn ho.1 ho.2 hid hf (qm7 ⟨hk,z2,hq,hn⟩)]
 unfold NSt.tk
 rw[qvn rfl]
 show HeardS.mk (NSt.hr _ (NdS.no _ _ _ (jhq C22 (T1 k (EN k now false El.o 0) _) k g st now))) none 0=_
 rw[qro (fun h=>by cases h) hg Q8H hst hn]
 rfl
theorem q1v (hid:¬ k=id) (hk:okI k) (hq:okQ q) (hst:okT st) (hn:okT now) (hf:qdj st now 50 1=0) :
  jd1 (mkN id seq told asked v e T0 bl tx S) (encF (jfb k q st t false g).f) at_ now fine=⟨mkN id seq told asked v e (T1 k (EN k now false El.o 0) ⟨true,q,1⟩) bl tx S,none,0⟩:=by
 have ho:=qi7 (fine:=t) (v:=false) (e:=g) hk hq hst fun h=>by cases h
 rw[qf5 (s:=mkN id seq told asked v e T0 bl tx S) hn ho.1 ho.2 hid hf (qm7 ⟨hk,z2,hq,hn⟩)]
 unfold NSt.tk
 rw[q5f rfl]
 rfl
theorem qrp (hid:¬ k=id) (hk:okI k) (hq:okQ q) (hst:okT st) (hn:okT now) (hg:has=true->g.may) (hg2:g2.may) (hw:qbc w) (hf:qdj st now 50 1=0) (hW:whear W q=(0,W')) :
  jd1 (mkN id seq told asked v e (T1 k (EN k h has g w) W) bl tx S) (encF (jfb k q st t true g2).f) at_ now fine=⟨mkN id seq told asked v e (T1 k (EN k now true (if has=true then (qev g g2).1 else g2) now) W') bl tx S,none,0⟩:=by
 have ho:=qi7 (fine:=t) (v:=true) hk hq hst fun _=>hg2
 rw[qf5 (s:=mkN id seq told asked v e (T1 k (EN k h has g w) W) bl tx S) hn ho.1 ho.2 hid hf (qg2 ⟨hk,z2,hq,hn⟩ hW)]
 unfold NSt.tk
 rw[qvn rfl]
 show HeardS.mk (NSt.hr _ (NdS.no _ _ _ (jhq C22 (T1 k (EN k now has g w) _) k g2 st now))) none 0=_
 rw[qro hg hg2 hw hst hn]
 rfl
theorem qrq {w2:Int} (hid:¬ k=id) (hi:okI id) (hk:okI k) (hq:okQ q) (hst:okT st) (hn:okT now) (hg2:g2.may) (hw2:0<=w2/\w2<=st) (hf:qdj st now 50 1=0) (hW:whear W q=(0,W')) (hm:(fuseF e g2).2=0) :
  jd1 (mkN id seq told asked true e (T1 k (EN k h has g w) W) bl tx S) (encF (jf5 k q st t id w2 g2).f) at_ now fine=⟨mkN id seq told asked true (fuseF e g2).1 (T1 k (EN k now has g w) W') bl tx S,none,0⟩:=by
 have ho:=q1u (fine:=t) hk hq hst hi (fun h=>hid h.symm) hw2 hg2
 rw[qf5 (s:=mkN id seq told asked true e (T1 k (EN k h has g w) W) bl tx S) hn ho.1 ho.2 hid hf (qg2 ⟨hk,z2,hq,hn⟩ hW)]
 unfold NSt.tk
 rw[q5e rfl]
 have e1:qbp ((mkN id seq told asked true e (T1 k (EN k h has g w) W) bl tx S).nd fun _=>(0,0)) ⟨1000000000000,true,e⟩ (T1 k (EN k now has g w) W') (jf5 k q st t id w2 g2).f now=(⟨1000000000000,true,(fuseF e g2).1⟩,T1 k (EN k now has g w) W'):=by
  unfold qbp;rw[if_pos (show(jf5 k q st t id w2 g2).f.wh=((mkN id seq told asked true e (T1 k (EN k h has g w) W) bl tx S).nd fun _=>(0,0)).id from rfl)];have e2:qb2 (jf5 k q st t id w2 g2).f.el (jf5 k q st t id w2 g2).f.wn now (C22 2) (C22 4)=(g2,0):=qs7 (e:=g2) (w:=w2) hg2 ⟨hw2.1,by omega⟩ hn;show(if (qb2 (jf5 k q st t id w2 g2).f.el (jf5 k q st t id w2 g2).f.wn now (C22 2) (C22 4)).2=0 then Fil.meet _ (qb2 (jf5 k q st t id w2 g2).f.el (jf5 k q st t id w2 g2).f.wn now (C22 2) (C22 4)).1 else _,_)=_;rw[e2,if_pos rfl];unfold Fil.meet Fil.took;rw[if_pos rfl,if_pos hm]
 show HeardS.mk (NSt.hr _ (NdS.no _ _ (qbp ((mkN id seq told asked true e (T1 k (EN k h has g w) W) bl tx S).nd fun _=>(0,0)) ⟨1000000000000,true,e⟩ (T1 k (EN k now has g w) W') (jf5 k q st t id w2 g2).f now).1 (qbp ((mkN id seq told asked true e (T1 k (EN k h has g w) W) bl tx S).nd fun _=>(0,0)) ⟨1000000000000,true,e⟩ (T1 k (EN k now has g w) W') (jf5 k q st t id w2 g2).f now).2)) none 0=_
 rw[e1]
 rfl
theorem qhl (hid:¬ k=id) (hi:okI id) (hk:okI k) (hq:okQ q) (hst:okT st) (hn:okT now) (hf:qdj st now 50 1=0) (hW:whear W q=(0,W')) (hl:¬ bl=0) :
  jd1 (mkN id seq told asked v e (T1 k (EN k h has g w) W) bl tx S) (encF (jf0 k q st t id).f) at_ now fine=⟨mkN id (seq+1) told asked v e (T1 k (EN k now has g w) W') (bl-1) tx (upd (upd S k.toNat ((S k.toNat).gotPoll at_ st)) k.toNat (((upd S k.toNat ((S k.toNat).gotPoll at_ st)) k.toNat).resp fine (0*65536+seq))),some (jf1 id seq now fine k (0*65536+q)),0⟩:=by
 have ho:jfa (jf0 k q st t id):=qg3 (.inl rfl) hk hq hst hi (fun h=>hid h.symm) ⟨by decide,by decide⟩ ⟨by decide,by decide⟩ ⟨by decide,by decide⟩ (fun _=>⟨rfl,rfl,rfl⟩) (fun h=>by cases h)
 rw[qf5 (s:=mkN id seq told asked v e (T1 k (EN k h has g w) W) bl tx S) hn ho.1 ho.2 hid hf (qg2 ⟨hk,z2,hq,hn⟩ hW)]
 unfold NSt.tk
 rw[qo2 (.inl rfl) rfl]
 unfold qbk
 rw[if_pos (show(jf0 k q st t id).f.k=2 from rfl)]
 unfold jic
 rw[if_neg (show ¬ (mkN id seq told asked v e (T1 k (EN k h has g w) W) bl tx S).bl=0 from hl)]
 rfl
theorem qna {mk:Int} (hid:¬ k=id) (hi:okI id) (hk:okI k) (hq:okQ q) (hst:okT st) (hn:okT now) (hmk:0<=mk/\mk<=4294967295) (hf:qdj st now 50 1=0) (hW:whear W q=(0,W')) (hl:¬ bl=0) (hg:(S k.toNat).gotRespP at_ mk) (he:((upd S k.toNat ((S k.toNat).gotResp at_ mk)) k.toNat).a.endP fine) :
  jd1 (mkN id seq told asked v e (T1 k (EN k h has g w) W) bl tx S) (encF (jf1 k q st t id mk).f) at_ now fine=⟨mkN id (seq+1) told asked v e (T1 k (EN k now has g w) W') (bl-1) tx (upd (upd S k.toNat ((S k.toNat).gotResp at_ mk)) k.toNat (((upd S k.toNat ((S k.toNat).gotResp at_ mk)) k.toNat).final fine)),some (jg9 id seq now fine k (IntKind.i64.wrap (((upd S k.toNat ((S k.toNat).gotResp at_ mk)) k.toNat).a.to-((upd S k.toNat ((S k.toNat).gotResp at_ mk)) k.toNat).a.fr)) (IntKind.i64.wrap (fine-((upd S k.toNat ((S k.toNat).gotResp at_ mk)) k.toNat).a.to)) (0*65536+q)),0⟩:=by
 have ho:jfa (jf1 k q st t id mk):=qg3 (.inr (.inl rfl)) hk hq hst hi (fun h=>hid h.symm) ⟨hmk.1,by omega⟩ ⟨by decide,by decide⟩ ⟨by decide,by decide⟩ (fun h=>by cases h) (fun _=>⟨rfl,rfl,hmk.2⟩)
 rw[qf5 (s:=mkN id seq told asked v e (T1 k (EN k h has g w) W) bl tx S) hn ho.1 ho.2 hid hf (qg2 ⟨hk,z2,hq,hn⟩ hW)]
 unfold NSt.tk
 rw[qo2 (.inr (.inl rfl)) rfl]
 unfold qbk
 rw[if_neg (show ¬ (jf1 k q st t id mk).f.k=2 from(by decide:¬ (3:Int)=2)),if_pos (show(jf1 k q st t id mk).f.k=3 from rfl)]
 unfold jhr
 rw[if_pos (show((((mkN id seq told asked v e (T1 k (EN k h has g w) W) bl tx S).nd fun _=>(0,0)).S (jf1 k q st t id mk).f.s.toNat).gotRespP at_ (jf1 k q st t id mk).f.t1) from hg),
  if_pos (show(upd ((mkN id seq told asked v e (T1 k (EN k h has g w) W) bl tx S).nd fun _=>(0,0)).S (jf1 k q st t id mk).f.s.toNat ((((mkN id seq told asked v e (T1 k (EN k h has g w) W) bl tx S).nd fun _=>(0,0)).S (jf1 k q st t id mk).f.s.toNat).gotResp at_ (jf1 k q st t id mk).f.t1) (jf1 k q st t id mk).f.s.toNat).a.endP fine from he),
  if_neg (show ¬ (mkN id seq told asked v e (T1 k (EN k h has g w) W) bl tx S).bl=0 from hl)]
 rfl
def jjs (s:NSt) (k at_ now r a mk:Int) (T':Tbl):NSt:=s.hr ⟨upd s.S k.toNat ((s.S k.toNat).gotFinal at_ mk),s.seq,s.bl,qbj (s.nd fun _=>(0,0)) s.fi T' k r (IntKind.i64.wrap ((s.S k.toNat).b.to-(s.S k.toNat).b.fr)) a (IntKind.i64.wrap (at_-(s.S k.toNat).b.to)) (s.S k.toNat).b.sp now,T',none⟩
theorem qrr {r a mk:Int} (hid:¬ k=id) (hi:okI id) (hk:okI k) (hq:okQ q) (hst:okT st) (hn:okT now) (hr:0<=r/\r<=70368744177664) (ha:0<=a/\a<=70368744177664) (hmk:0<=mk/\mk<=4294967295) (hf:qdj st now 50 1=0) (hW:whear W q=(0,W')) (hg:(S k.toNat).gotFinalP at_ mk) :
  jd1 (mkN id seq told asked v e (T1 k (EN k h has g w) W) bl tx S) (encF (jg9 k q st t id r a mk).f) at_ now fine=⟨jjs (mkN id seq told asked v e (T1 k (EN k h has g w) W) bl tx S) k at_ now r a mk (T1 k (EN k now has g w) W'),none,0⟩:=by
 have ho:jfa (jg9 k q st t id r a mk):=qg3 (.inr (.inr rfl)) hk hq hst hi (fun h=>hid h.symm) hr ha hmk (fun h=>by cases h) (fun h=>by cases h)
 rw[qf5 (s:=mkN id seq told asked v e (T1 k (EN k h has g w) W) bl tx S) hn ho.1 ho.2 hid hf (qg2 ⟨hk,z2,hq,hn⟩ hW)]
 unfold NSt.tk
 rw[qo2 (.inr (.inr rfl)) rfl]
 unfold qbk
 rw[if_neg (show ¬ (jg9 k q st t id r a mk).f.k=2 from(by decide:¬ (4:Int)=2)),if_neg (show ¬ (jg9 k q st t id r a mk).f.k=3 from(by decide:¬ (4:Int)=3))]
 unfold qvd
 rw[if_pos (show((((mkN id seq told asked v e (T1 k (EN k h has g w) W) bl tx S).nd fun _=>(0,0)).S (jg9 k q st t id r a mk).f.s.toNat).gotFinalP at_ (jg9 k q st t id r a mk).f.wn) from hg)]
 rfl
theorem qc5 (h1:0<=bl/\bl<1000) (h2:0<=seq/\seq<65535) (h3:v=true->e.may) {T:Tbl} (h4:TOK T):NdH (mkN id seq told asked v e T bl tx S):=
 ⟨⟨by show(0:Int)<=0;decide,by show(0:Int)<=1000;decide⟩,h1,h2,z2,⟨by show(0:Int)<=0;decide,by show(0:Int)<=1000000;decide⟩,h3,h4⟩
theorem qjr (h2:0<=seq/\seq<65530) {T:Tbl} (h4:T.E.length<=64) (h5:TIn T) (hn:now<30):jkw (mkN id seq told asked v e T bl tx S) now:=
 ⟨⟨h2,z2,⟨by show(0:Int)<8;decide,by show(8:Int)<1000;decide⟩,⟨by show(0:Int)<=1;decide,by show(1:Int)<=1000000;decide⟩,⟨by show -9223372036854775808<=(30:Int);decide,by show(30:Int)<9223372036854775808;decide⟩,h4⟩,by show TIn (T.ev now 30);rw[jje hn];exact h5⟩
end
open Go Go.RowKit Sx
theorem jmu {d:Int} (h:1<=d/\d<=90000):(d-2<=jfq d 10/\jfq d 10<=d-1)/\d+1<=jfr d 10/\jfr d 10<=d+2:=by
 unfold jfq jfr;rw[Int.max_eq_right (by omega:0<=d-1)];omega
theorem jpc {F:Int} (hF:100<=F/\F<=5099) (hw:0<=w/\w<=999):rgE (10000+w+F) (10000+w-F) (20000+w-F) (20000+w+F) 10 0=0/\0<=rgLo (10000+w+F) (10000+w-F) (20000+w-F) (20000+w+F) 10 0/\rgLo (10000+w+F) (10000+w-F) (20000+w-F) (20000+w+F) 10 0<=F/\F<=rgHi (10000+w+F) (10000+w-F) (20000+w-F) (20000+w+F) 10 0/\rgHi (10000+w+F) (10000+w-F) (20000+w-F) (20000+w+F) 10 0<=5103:=by
 have a1:=jmu (d:=10000+w+F) Q8G;have a2:=jmu (d:=10000+w-F) Q8G;have a3:=jmu (d:=20000+w-F) Q8G;have a4:=jmu (d:=20000+w+F) Q8G;have hlo:0<=rgLo (10000+w+F) (10000+w-F) (20000+w-F) (20000+w+F) 10 0/\rgLo (10000+w+F) (10000+w-F) (20000+w-F) (20000+w+F) 10 0<=F:=by unfold rgLo;omega
 have hhi:F<=rgHi (10000+w+F) (10000+w-F) (20000+w-F) (20000+w+F) 10 0/\rgHi (10000+w+F) (10000+w-F) (20000+w-F) (20000+w+F) 10 0<=5103:=by unfold rgHi;omega
 have hok:jkr (10000+w+F) (10000+w-F) (20000+w-F) (20000+w+F) 10 0:=by unfold jkr qdi;omega
 refine⟨?_,hlo.1,hlo.2,hhi.1,hhi.2⟩;unfold rgE;rw[if_pos hok,if_neg Q8G,if_neg Q8G]
theorem jaf {F lo hi:Int} (hF:0<=F) (h0:0<=lo) (h1:lo<=F) (h2:F<=hi):apart F 0 0 0 lo hi:=by
 have a:=xS h1 h1 h0 hF;have b:=xS h2 h2 hF (by omega:0<=hi);unfold apart;simp only[Int.sub_zero,Int.mul_zero,Int.add_zero];exact⟨a,b⟩
theorem q1w {F:Int} {G:El} (hF:100<=F/\F<=5099) (hw:0<=w/\w<=999) (he:v=true->e.may/\e.at F 0) (hG:G.may) (hG0:G.at 0 0) (hGt:G.tr<=5202) (seq told asked bl tx:Int) (S:Nat->Ses) (T:Tbl) (h:Int) (W:Win) :
  (qbj ((mkN 1 seq told asked v e T bl tx S).nd fun _=>(0,0)) ⟨1000000000000,v,e⟩ (T1 0 (EN 0 h true G 2) W) 0 (10000+w+F) (10000+w-F) (20000+w-F) (20000+w+F) 2 2).valid=true/\
  (qbj ((mkN 1 seq told asked v e T bl tx S).nd fun _=>(0,0)) ⟨1000000000000,v,e⟩ (T1 0 (EN 0 h true G 2) W) 0 (10000+w+F) (10000+w-F) (20000+w-F) (20000+w+F) 2 2).e.may/\
  (qbj ((mkN 1 seq told asked v e T bl tx S).nd fun _=>(0,0)) ⟨1000000000000,v,e⟩ (T1 0 (EN 0 h true G 2) W) 0 (10000+w+F) (10000+w-F) (20000+w-F) (20000+w+F) 2 2).e.at F 0/\
  (v=true->(qbj ((mkN 1 seq told asked v e T bl tx S).nd fun _=>(0,0)) ⟨1000000000000,v,e⟩ (T1 0 (EN 0 h true G 2) W) 0 (10000+w+F) (10000+w-F) (20000+w-F) (20000+w+F) 2 2).e.tr<=e.tr):=by
 obtain⟨r1,r2,r3,r4,r5⟩:=jpc hF hw
 have hsl:qhs ((mkN 1 seq told asked v e T bl tx S).nd fun _=>(0,0)) 2 2=0:=by
  show 2*0*_=_;omega
 have htr:qcw ((mkN 1 seq told asked v e T bl tx S).nd fun _=>(0,0)).C (T1 0 (EN 0 h true G 2) W) 0 2=(G,true):=(qrn (fun _=>hG) Q8H Q8H).trans (if_pos rfl)
 have hm:qbj ((mkN 1 seq told asked v e T bl tx S).nd fun _=>(0,0)) ⟨1000000000000,v,e⟩ (T1 0 (EN 0 h true G 2) W) 0 (10000+w+F) (10000+w-F) (20000+w-F) (20000+w+F) 2 2=Fil.range ⟨1000000000000,v,e⟩ G (rgLo (10000+w+F) (10000+w-F) (20000+w-F) (20000+w+F) 10 0) (rgHi (10000+w+F) (10000+w-F) (20000+w-F) (20000+w+F) 10 0):=by
  unfold qbj;rw[hsl,htr,if_pos ⟨rfl,by decide,r1⟩];rfl
 rw[hm]
 generalize rgLo (10000+w+F) (10000+w-F) (20000+w-F) (20000+w+F) 10 0=lo at r2 r3
 generalize rgHi (10000+w+F) (10000+w-F) (20000+w-F) (20000+w+F) 10 0=hi at r4 r5
 have hap:=jaf (by omega:0<=F) r2 r3 r4
 have hd:jfy lo hi:=⟨r2,by omega,by omega⟩
 cases v with
 | true=>
  obtain⟨he1,he2⟩:=he rfl;obtain⟨r,h1,⟨h2,h3⟩,h4⟩:=qq8 he1 hG he2 hG0 hd hap;unfold Fil.range;rw[if_pos rfl];unfold Fil.took;rw[h1,if_pos rfl];exact⟨rfl,h2,h3,fun _=>h4⟩
 | false=>
  have hrad:(G.rad:Int)<=5202:=by
   have:G.rad<=5202:=quk (by
    have:G.tr.toNat<=5202:=by omega
    omega)
   omega
  have ha:qbo G hi=(jd0 G.x G.y (max 1 (hi+G.rad)),0):=by
   unfold qbo;rw[if_pos ⟨hG,by omega,by omega⟩,if_neg Q8G]
  obtain⟨h1,h2⟩:=qoq ha hG0 hd hap;have hmx:max 1 (hi+(G.rad:Int))<=10305:=by omega
  have hm1:1<=max 1 (hi+(G.rad:Int)):=by omega
  have htr2:(jd0 G.x G.y (max 1 (hi+G.rad))).tr<=1000000000000:=by
   rw[trf h1];show max 1 (hi+(G.rad:Int))*max 1 (hi+(G.rad:Int))+max 1 (hi+(G.rad:Int))*max 1 (hi+(G.rad:Int))<=_;have:=xS hmx hmx Q8G Q8H;omega
  unfold Fil.range;rw[if_neg Q8R,ha,if_pos rfl];unfold Fil.set;rw[if_pos ⟨h1,htr2⟩];exact⟨rfl,h1,h2,fun h=>by cases h⟩
theorem q1x (S:Nat->Ses) (m:Nat) {t p:Int} (ht:jeo t):upd S m ((S m).poll t p) m=⟨⟨1,t,0,p,0⟩,(S m).b⟩:=by
 rw[qiv];unfold Ses.poll jkg;rw[if_pos ht]
theorem qnb (S:Nat->Ses) (m:Nat) {t p:Int} (ht:jeo t):upd S m ((S m).gotPoll t p) m=⟨(S m).a,⟨1,t,0,0,p⟩⟩:=by
 rw[qiv];unfold Ses.gotPoll jkg;rw[if_pos ht]
theorem q1y (S:Nat->Ses) (m:Nat) {t p t0 sp:Int} (h:(S m).b=⟨1,t0,0,0,sp⟩) (ht:jeo t) (h0:t0<=t):upd S m ((S m).resp t p) m=⟨(S m).a,⟨2,t0,t,p,sp⟩⟩:=by
 rw[qiv];unfold Ses.resp;rw[if_pos (show(S m).b.ansP t from by rw[h];exact⟨rfl,ht,h0⟩),h]
theorem qnc (S:Nat->Ses) (m:Nat) {t p t0:Int} (h:(S m).a=⟨1,t0,0,p,0⟩) (ht:jeo t) (h0:t0<=t):(S m).gotRespP t p/\upd S m ((S m).gotResp t p) m=⟨⟨2,t0,t,p,0⟩,(S m).b⟩:=by
 have hP:(S m).a.ansP t:=by rw[h];exact⟨rfl,ht,h0⟩
 have hg:(S m).gotRespP t p:=⟨by rw[h],hP⟩;refine⟨hg,?_⟩;rw[qiv];unfold Ses.gotResp Half.ans;rw[if_pos hg,if_pos hP,h]
end Go.Proofs.YtfkngpmgcimdbaaGreat
