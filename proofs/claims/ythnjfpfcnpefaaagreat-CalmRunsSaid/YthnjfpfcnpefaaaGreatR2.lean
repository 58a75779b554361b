/-
  A great call, run by the kernel. Conditions: none.
-/
import Derived.Test.YthnjfpfcnpefaaaGreatProg
import Derived.Test.YthnjfpfcnpefaaaGreatKC2
import Derived.Test.YthnjfpfcnpefaaaGreatL0
namespace Go.Proofs.YthnjfpfcnpefaaaGreat
open Go.Am
set_option maxRecDepth 100000
theorem r2_ok : layTabG Tryz.prog [(149, PFn.keys 0)] 63688457214925281472799044492645670071677781948085185280599435457972869458773701656777600 (fun t => onS (mkS a2h a2m a2n) fun σ => evalB (tabG t) 100000 7 [vp 7 0, vi 2, .agg [vi 7, vi 0, vi 0, vi 0, vi 0, vi 0, vi 0, vi 0, vi 0, vi 0, vi 0, vi 0, vi 0, vi 0, vi 0, vi 0, vf, vi 5, vi 0]] σ (fun v' σ => eqT v' (.tup [.agg [vi 8, vi 0, vi 0, vi 0], vt]) && lessB σ b2h b2m b2n)) = true := by kernel_rfl
end Go.Proofs.YthnjfpfcnpefaaaGreat
