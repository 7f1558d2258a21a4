/- Part TxT; no condition. -/
import Derived.Test.YtfmhlfoemkjoiaaGreatTxS
set_option maxHeartbeats 40000000
set_option maxRecDepth 100000
set_option linter.unusedVariables false
set_option linter.unusedSimpArgs false
namespace Go.Px
open Go.Ax Go.Proofs
variable {l:Bg} {t r:Int}
theorem ms{p:Plc}(h:PlMay p):∀i,i<p.length->1<=rM p i:=λi hi=>by have:=(h.2.2.1 i hi).1;unfold RunOk at this;omega
end Go.Px
