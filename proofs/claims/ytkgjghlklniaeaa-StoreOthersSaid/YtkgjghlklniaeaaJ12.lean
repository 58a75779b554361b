/-
  draylaw24.StoreRuns: the evaluator's run by the kernel. Conditions: none.
-/
import Derived.Test.YtkgjghlklniaeaaRows
import Derived.Test.YtkgjghlklniaeaaJ0
namespace Go.Proofs.Ytkgjghlklniaeaa
theorem storeRuns_ok : Am.layTab Try.prog [] 10303464076234835473636129350080000 (fun t => Am.isTrue (Am.evalF (Am.tabT t) 100000 30 [] Am.S.start)) = true := by kernel_rfl
theorem mixed : Try.prog.follows .mixedOrders = true := by kernel_rfl
theorem runs : Am.TrueCall Try.prog 30 := Am.closed_true mixed (fun _ _ h => by cases h) storeRuns_ok
end Go.Proofs.Ytkgjghlklniaeaa
