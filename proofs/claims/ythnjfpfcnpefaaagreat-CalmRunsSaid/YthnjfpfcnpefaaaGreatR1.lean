/-
  A great call, run by the kernel. Conditions: none.
-/
import Derived.Test.YthnjfpfcnpefaaaGreatProg
import Derived.Test.YthnjfpfcnpefaaaGreatKC2
import Derived.Test.YthnjfpfcnpefaaaGreatL0
namespace Go.Proofs.YthnjfpfcnpefaaaGreat
open Go.Am
set_option maxRecDepth 100000
theorem r1_ok : layTabG Tryz.prog [(149, PFn.keys 0)] 63688457214925281472792292980793056398012153081511163944040189029559693099209747406459776 (fun t => onS (mkS a1h a1m a1n) fun σ => evalB (tabG t) 100000 7 [vp 7 0, vi 1, .agg [vi 7, vi 0, vi 0, vi 0, vi 0, vi 0, vi 0, vi 0, vi 0, vi 0, vi 0, vi 0, vi 0, vi 0, vi 0, vi 0, vf, vi 5, vi 0]] σ (fun v' σ => eqT v' (.tup [.agg [vi 8, vi 0, vi 0, vi 0], vt]) && lessB σ b1h b1m b1n)) = true := by kernel_rfl
end Go.Proofs.YthnjfpfcnpefaaaGreat
