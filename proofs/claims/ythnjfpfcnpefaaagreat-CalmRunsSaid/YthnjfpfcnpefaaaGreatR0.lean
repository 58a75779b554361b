/-
  A great call, run by the kernel. Conditions: none.
-/
import Derived.Test.YthnjfpfcnpefaaaGreatProg
import Derived.Test.YthnjfpfcnpefaaaGreatKC2
import Derived.Test.YthnjfpfcnpefaaaGreatL0
namespace Go.Proofs.YthnjfpfcnpefaaaGreat
open Go.Am
set_option maxRecDepth 100000
theorem r0_ok : layTabG Tryz.prog [(149, PFn.keys 0)] 63657374512647860554972552603215390956484978818393891817429477701407512060736395271672640 (fun t => onS (mkS a0h a0m a0n) fun σ => evalB (tabG t) 100000 6 [vp 7 0, vi 20] σ (fun v' σ => eqT v' (.tup [.nsl, vt]) && lessB σ b0h b0m b0n)) = true := by kernel_rfl
end Go.Proofs.YthnjfpfcnpefaaaGreat
