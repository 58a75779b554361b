/-
  A great call, run by the kernel. Conditions: none.
-/
import Derived.Test.YthnjfpfcnpefaaaGreatProg
import Derived.Test.YthnjfpfcnpefaaaGreatKC2
import Derived.Test.YthnjfpfcnpefaaaGreatL0
namespace Go.Proofs.YthnjfpfcnpefaaaGreat
open Go.Am
set_option maxRecDepth 100000
theorem r3_ok : layTabG Tryz.prog [(149, PFn.keys 0)] 127314748995189777908101332767064821317190681661912773686387042191301961150177201318696720 (fun t => onS (mkS a3h a3m a3n) fun σ => evalB (tabG t) 100000 10 [vp 7 0] σ (fun v' σ => eqT v' (.nsl) && lessB σ b3h b3m b3n)) = true := by kernel_rfl
end Go.Proofs.YthnjfpfcnpefaaaGreat
