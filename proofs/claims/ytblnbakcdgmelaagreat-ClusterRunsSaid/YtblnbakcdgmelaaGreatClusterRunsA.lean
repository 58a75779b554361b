/-
  draylaw28.ClusterRuns: the evaluator's run by the kernel. Conditions: none.
-/
import Derived.Test.YtblnbakcdgmelaaGreatProg
import Derived.Test.YtblnbakcdgmelaaGreatK26
namespace Go.Proofs.YtblnbakcdgmelaaGreat
theorem clusterRuns_ok : Am.layTabG Tryz.prog [] 8152122523525141623756015908854265893825909581836010252348636799646590861629848303120904080 (fun t => Am.isTrue (Am.evalG (Am.tabG t) 100000 4 [] Am.S.start)) = true := by kernel_rfl
end Go.Proofs.YtblnbakcdgmelaaGreat
