/-
  The walk of NodeRefuses, joined.
-/
import Derived.Test.YtfkngpmgcimdbaaGreatR12
import Derived.Test.YtfkngpmgcimdbaaGreatR13
import Derived.Test.YtfkngpmgcimdbaaGreatR14
import Derived.Test.YtfkngpmgcimdbaaGreatR15
set_option linter.unusedVariables false
set_option linter.unusedSimpArgs false
set_option maxRecDepth 100000
set_option maxHeartbeats 20000000
open Go.Proofs.Tryz
namespace Go.Proofs.YtfkngpmgcimdbaaGreat
open Go Go.RowKit Sx
theorem jpl(b0 o0 n0 cap:Nat)(C0:Nat->Cl)(Bs:Nat->List Int)(u:Option Sl)(rw_:List Int)(age:Int)(W:World)(hW:b0<W.heap.size)(hS:jpc W b0 o0 n0 C0 Bs)(hnn:n0<=9223372036854775807)(hsr:Src W [] u rw_)(hru:∀j,j<rw_.length->0<=rw_.getD j 0/\rw_.getD j 0<256)(hrc:∀s,u=some s->s.n<=s.c):
 xa 4 #[.slice (some ⟨b0,o0,none⟩) n0 cap,uR u,xc age] W (.bool true):=(jplP b0 o0 n0 cap C0 Bs u rw_ age W hW hS hnn hsr hru hrc).2.2.2.2 ⟨jplA b0 o0 n0 cap C0 Bs u rw_ age W hW hS hnn hsr hru hrc⟩ ⟨jplB b0 o0 n0 cap C0 Bs u rw_ age W hW hS hnn hsr hru hrc⟩ ⟨jplC b0 o0 n0 cap C0 Bs u rw_ age W hW hS hnn hsr hru hrc⟩ ⟨jplD b0 o0 n0 cap C0 Bs u rw_ age W hW hS hnn hsr hru hrc⟩
end Go.Proofs.YtfkngpmgcimdbaaGreat
