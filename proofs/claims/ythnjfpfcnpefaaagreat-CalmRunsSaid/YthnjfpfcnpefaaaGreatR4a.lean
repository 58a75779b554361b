/-
  Some rounds of a loop, run by the kernel. Conditions: none.
-/
import Derived.Test.YthnjfpfcnpefaaaGreatProg
import Derived.Test.YthnjfpfcnpefaaaGreatKC2
import Derived.Test.YthnjfpfcnpefaaaGreatL4
namespace Go.Proofs.YthnjfpfcnpefaaaGreat
open Go.Am
set_option maxRecDepth 100000
theorem r4_0_ok : layTabG Tryz.prog [(149, PFn.keys 0)] 191003206210115059380839717228418303360999918314009299301372365763078517045164225102287632 (fun t => onLoop Tryz.prog 6 fun p => compC p fun b => onT (mkT e4t) fun T => onS (mkS e4h e4m e4n) fun σ => roundsB b (evalB (tabG t) 100000) 100000 (fun T σ => tmB T (mkT c4_15t) && lessB σ c4_15h c4_15m c4_15n) 15 T σ) = true := by kernel_rfl
end Go.Proofs.YthnjfpfcnpefaaaGreat
