/-
  draylaw22.WalRuns: the evaluator's run by the kernel. Conditions: none.
-/
import Derived.Test.YtkgjghlklniaeaaRows
import Derived.Test.YtkgjghlklniaeaaJ0
namespace Go.Proofs.Ytkgjghlklniaeaa
theorem walRuns_ok : Am.layTab Try.prog [] 9126925935431198342229882910537216 (fun t => Am.isTrue (Am.evalF (Am.tabT t) 100000 13 [] Am.S.start)) = true := by kernel_rfl
theorem mixed : Try.prog.follows .mixedOrders = true := by kernel_rfl
theorem runs : Am.TrueCall Try.prog 13 := Am.closed_true mixed (fun _ _ h => by cases h) walRuns_ok
end Go.Proofs.Ytkgjghlklniaeaa
