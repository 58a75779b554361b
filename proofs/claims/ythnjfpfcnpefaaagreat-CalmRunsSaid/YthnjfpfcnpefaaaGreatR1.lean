/-
  A great call, run by the kernel. Conditions: none.
-/
import Derived.Test.YthnjfpfcnpefaaaGreatProg
import Derived.Test.YthnjfpfcnpefaaaGreatKC2
import Derived.Test.YthnjfpfcnpefaaaGreatL0
namespace Go.Proofs.YthnjfpfcnpefaaaGreat
open Go.Am
set_option maxRecDepth 100000
theorem r1_ok : layTabG Tryz.prog [(149, PFn.keys 0)] 191003206210115059380839717280644182884897681457945332460510419144828534171952651920474104 (fun t => onS (mkS a1h a1m a1n) fun σ => evalB (tabG t) 100000 7 [vp 7 0, vi 1, .agg [vi 7, vi 0, vi 0, vi 0, vi 0, vi 0, vi 0, vi 0, vi 0, vi 0, vi 0, vi 0, vi 0, vi 0, vi 0, vi 0, vf, vi 5, vi 0]] σ (fun v' σ => eqT v' (.tup [.agg [vi 8, vi 0, vi 0, vi 0], vt]) && lessB σ b1h b1m b1n)) = true := by kernel_rfl
end Go.Proofs.YthnjfpfcnpefaaaGreat
