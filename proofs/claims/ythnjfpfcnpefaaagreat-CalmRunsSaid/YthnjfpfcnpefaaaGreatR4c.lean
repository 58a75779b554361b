/-
  Some rounds of a loop, run by the kernel. Conditions: none.
-/
import Derived.Test.YthnjfpfcnpefaaaGreatProg
import Derived.Test.YthnjfpfcnpefaaaGreatKC2
import Derived.Test.YthnjfpfcnpefaaaGreatL4
namespace Go.Proofs.YthnjfpfcnpefaaaGreat
open Go.Am
set_option maxRecDepth 100000
theorem r4_2_ok : layTabG Tryz.prog [(149, PFn.keys 0)] 191003206210115059380839717280644182884897681457945332460510419144828534171952651920474104 (fun t => onLoop Tryz.prog 6 fun p => compC p fun b => onT (mkT c4_52t) fun T => onS (mkS c4_52h c4_52m c4_52n) fun σ => roundsB b (evalB (tabG t) 100000) 100000 (fun T σ => tmB T (mkT c4_78t) && lessB σ c4_78h c4_78m c4_78n) 26 T σ) = true := by kernel_rfl
end Go.Proofs.YthnjfpfcnpefaaaGreat
