/-
  draylaw31.ShellRuns: the evaluator's run by the kernel. Conditions: none.
-/
import Derived.Test.YtoinccnpbdefnaaGreatDoorProg
import Derived.Test.YtoinccnpbdefnaaGreatDoorK25
namespace Go.Proofs.YtoinccnpbdefnaaGreatDoor
theorem shellRuns_ok : Am.layTab Tryz.prog [] 56539106072959739591559527096619610036921367931520420093514701564043853816 (fun t => Am.isTrue (Am.evalF (Am.tabT t) 100000 3 [] Am.S.start)) = true := by kernel_rfl
end Go.Proofs.YtoinccnpbdefnaaGreatDoor
