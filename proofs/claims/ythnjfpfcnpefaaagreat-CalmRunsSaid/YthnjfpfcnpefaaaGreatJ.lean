/-
  The pieces that join the runs, run by the kernel. Conditions: none.
-/
import Derived.Test.YthnjfpfcnpefaaaGreatProg
import Derived.Test.YthnjfpfcnpefaaaGreatKC3
import Derived.Test.YthnjfpfcnpefaaaGreatL0
import Derived.Test.YthnjfpfcnpefaaaGreatL4
import Derived.Test.YthnjfpfcnpefaaaGreatL5
namespace Go.Proofs.YthnjfpfcnpefaaaGreat
open Go.Am
set_option maxRecDepth 100000
theorem f4_ok : fnTest Tryz.prog 6 (lkOf e4t e4h e4m e4n (.exit 0, mkT z4t, (mkS z4h z4m z4n))) [vp 7 0, vi 100] (mkS a4h a4m a4n) (fun v' σ => eqT v' (.tup [.nsl, vt]) && lessB σ b4h b4m b4n) = true := by kernel_rfl
theorem f5_ok : fnTest Tryz.prog 7 (lkOf e5t e5h e5m e5n (.exit 0, mkT z5t, (mkS z5h z5m z5n))) [vp 7 0, vi 0, .agg [vi 7, vi 0, vi 0, vi 0, vi 0, vi 0, vi 0, vi 0, vi 0, vi 0, vi 0, vi 0, vi 0, vi 0, vi 0, vi 0, vf, vi 5, vi 0]] (mkS a5h a5m a5n) (fun v' σ => eqT v' (.tup [.agg [vi 0, vi 0, vi 0, vi 0], vf]) && lessB σ b5h b5m b5n) = true := by kernel_rfl
noncomputable def knowns : List KCall := [⟨6, [vp 7 0, vi 20], a0h, a0m, a0n, .tup [.nsl, vt], (mkS b0h b0m b0n)⟩,
  ⟨7, [vp 7 0, vi 1, .agg [vi 7, vi 0, vi 0, vi 0, vi 0, vi 0, vi 0, vi 0, vi 0, vi 0, vi 0, vi 0, vi 0, vi 0, vi 0, vi 0, vf, vi 5, vi 0]], a1h, a1m, a1n, .tup [.agg [vi 8, vi 0, vi 0, vi 0], vt], (mkS b1h b1m b1n)⟩,
  ⟨7, [vp 7 0, vi 2, .agg [vi 7, vi 0, vi 0, vi 0, vi 0, vi 0, vi 0, vi 0, vi 0, vi 0, vi 0, vi 0, vi 0, vi 0, vi 0, vi 0, vf, vi 5, vi 0]], a2h, a2m, a2n, .tup [.agg [vi 8, vi 0, vi 0, vi 0], vt], (mkS b2h b2m b2n)⟩,
  ⟨10, [vp 7 0], a3h, a3m, a3n, .nsl, (mkS b3h b3m b3n)⟩,
  ⟨6, [vp 7 0, vi 100], a4h, a4m, a4n, .tup [.nsl, vt], (mkS b4h b4m b4n)⟩,
  ⟨7, [vp 7 0, vi 0, .agg [vi 7, vi 0, vi 0, vi 0, vi 0, vi 0, vi 0, vi 0, vi 0, vi 0, vi 0, vi 0, vi 0, vi 0, vi 0, vi 0, vf, vi 5, vi 0]], a5h, a5m, a5n, .tup [.agg [vi 0, vi 0, vi 0, vi 0], vf], (mkS b5h b5m b5n)⟩]
theorem law_ok : layTab Tryz.prog [(149, PFn.keys 0)] 5708990776634298592065816725988355745806613424 (lawTest Tryz.prog 3 100000 knowns) = true := by kernel_rfl
theorem sorts_ok : layTab Tryz.prog [] 63657374512647860554804041315733133352537398697998554403240283887527395194006422048210944 (sortsTest 1000 198) = true := by kernel_rfl
end Go.Proofs.YthnjfpfcnpefaaaGreat
