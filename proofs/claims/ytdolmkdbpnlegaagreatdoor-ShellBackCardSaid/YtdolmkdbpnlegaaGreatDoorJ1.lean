/-
  draylaw31.ShellRuns: the evaluator's run by the kernel. Conditions: none.
-/
import Derived.Test.YtdolmkdbpnlegaaGreatDoorProg
import Derived.Test.YtdolmkdbpnlegaaGreatDoorJx0
namespace Go.Proofs.YtdolmkdbpnlegaaGreatDoor
theorem mixed : Tryz.prog.follows .mixedOrders = true := by kernel_rfl
theorem shellRuns_ok : Am.layTab Tryz.prog [] 7410693711194986469653569240191857408941520969669620151087250508484075946502976 (fun t => Am.isTrue (Am.evalF (Am.tabT t) 100000 8 [] Am.S.start)) = true := by kernel_rfl
theorem runs : Am.TrueCall Tryz.prog 8 := Am.closed_true mixed (fun f p h => by cases h) shellRuns_ok
end Go.Proofs.YtdolmkdbpnlegaaGreatDoor
