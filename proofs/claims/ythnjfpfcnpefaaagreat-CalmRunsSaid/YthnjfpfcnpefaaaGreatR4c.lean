/-
  Some rounds of a loop, run by the kernel. Conditions: none.
-/
import Derived.Test.YthnjfpfcnpefaaaGreatProg
import Derived.Test.YthnjfpfcnpefaaaGreatKC2
import Derived.Test.YthnjfpfcnpefaaaGreatL4
namespace Go.Proofs.YthnjfpfcnpefaaaGreat
open Go.Am
set_option maxRecDepth 100000
theorem r4_2_ok : layTabG Tryz.prog [(149, PFn.keys 0)] 11397935585190390112607186404518645708107211076164850432 (fun t => onLoop Tryz.prog 6 fun p => compC p fun b => onT (mkT c4_44t) fun T => onS (mkS c4_44h c4_44m c4_44n) fun σ => roundsB b (evalB (tabG t) 100000) 100000 (fun T σ => tmB T (mkT c4_72t) && lessB σ c4_72h c4_72m c4_72n) 28 T σ) = true := by kernel_rfl
end Go.Proofs.YthnjfpfcnpefaaaGreat
