/-
  Some rounds of a loop, run by the kernel. Conditions: none.
-/
import Derived.Test.YthnjfpfcnpefaaaGreatProg
import Derived.Test.YthnjfpfcnpefaaaGreatKC2
import Derived.Test.YthnjfpfcnpefaaaGreatL5
namespace Go.Proofs.YthnjfpfcnpefaaaGreat
open Go.Am
set_option maxRecDepth 100000
theorem r5_1_ok : layTabG Tryz.prog [(149, PFn.keys 0)] 11397935585190390112607186404518645708107211110524850944 (fun t => onLoop Tryz.prog 7 fun p => compC p fun b => onT (mkT c5_15t) fun T => onS (mkS c5_15h c5_15m c5_15n) fun σ => roundsB b (evalB (tabG t) 100000) 100000 (fun T σ => tmB T (mkT c5_44t) && lessB σ c5_44h c5_44m c5_44n) 29 T σ) = true := by kernel_rfl
end Go.Proofs.YthnjfpfcnpefaaaGreat
