/-
  draylaw27.NodeRuns: the evaluator's run by the kernel. Conditions: none.
-/
import Derived.Test.YtblnbakcdgmelaaGreatProg
import Derived.Test.YtblnbakcdgmelaaGreatK26
namespace Go.Proofs.YtblnbakcdgmelaaGreat
theorem nodeRuns_ok : Am.layTabG Tryz.prog [] 8543956296800871035944165929458373131319643241848370887577854825016798978132944565195240769585096 (fun t => Am.isTrue (Am.evalG (Am.tabG t) 100000 3 [] Am.S.start)) = true := by kernel_rfl
end Go.Proofs.YtblnbakcdgmelaaGreat
