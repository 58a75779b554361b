/-
  Some rounds of a loop, run by the kernel. Conditions: none.
-/
import Derived.Test.YthnjfpfcnpefaaaGreatProg
import Derived.Test.YthnjfpfcnpefaaaGreatKC2
import Derived.Test.YthnjfpfcnpefaaaGreatL5
namespace Go.Proofs.YthnjfpfcnpefaaaGreat
open Go.Am
set_option maxRecDepth 100000
theorem r5_2_ok : layTabG Tryz.prog [(149, PFn.keys 0)] 191003206210115059380839717280644182884897681457945332460510419144828534171952651920474104 (fun t => onLoop Tryz.prog 7 fun p => compC p fun b => onT (mkT c5_52t) fun T => onS (mkS c5_52h c5_52m c5_52n) fun σ => roundsB b (evalB (tabG t) 100000) 100000 (fun T σ => tmB T (mkT c5_78t) && lessB σ c5_78h c5_78m c5_78n) 26 T σ) = true := by kernel_rfl
end Go.Proofs.YthnjfpfcnpefaaaGreat
