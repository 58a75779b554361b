/-
  Some rounds of a loop, run by the kernel. Conditions: none.
-/
import Derived.Test.YthnjfpfcnpefaaaGreatProg
import Derived.Test.YthnjfpfcnpefaaaGreatKC2
import Derived.Test.YthnjfpfcnpefaaaGreatL5
namespace Go.Proofs.YthnjfpfcnpefaaaGreat
open Go.Am
set_option maxRecDepth 100000
theorem r5_0_ok : layTabG Tryz.prog [(149, PFn.keys 0)] 191003206210115059380839717280644182884897681457945332460510419144828534171952651920474104 (fun t => onLoop Tryz.prog 7 fun p => compC p fun b => onT (mkT e5t) fun T => onS (mkS e5h e5m e5n) fun σ => roundsB b (evalB (tabG t) 100000) 100000 (fun T σ => tmB T (mkT c5_26t) && lessB σ c5_26h c5_26m c5_26n) 26 T σ) = true := by kernel_rfl
end Go.Proofs.YthnjfpfcnpefaaaGreat
