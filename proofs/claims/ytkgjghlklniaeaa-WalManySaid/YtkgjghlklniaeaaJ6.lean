/-
  Calls that are handed in, as the evaluator's; a known call. Conditions: none.
-/
import Derived.Test.YtkgjghlklniaeaaRows
import Derived.Test.YtkgjghlklniaeaaJ3
import Derived.Test.YtkgjghlklniaeaaJ1
import Derived.Test.YtkgjghlklniaeaaG2
import Derived.ProofKit
namespace Go.Proofs.Ytkgjghlklniaeaa
open Go.ChangeShapes Go.WideShapes Go.ChangeAt Go.RowKit
open Go.Am (cvt mapW memW Wide SR SlAt BySl AVal)
theorem Try.own : ownKnob Try.prog.godebug = none := by kernel_rfl
theorem call13 : ∀ (σ1 : Am.S) (Q1 : AVal → Am.S → Prop), (∀ σ2, Q1 (.bool true) σ2) → Am.WF tabH 13 [] σ1 Q1 := fun σ1 Q1 hQ =>
  ⟨.bool true, σ1, hQ σ1, 1, fun m hm => by
    obtain ⟨m, rfl⟩ : ∃ k, m = k + 1 := ⟨m - 1, by omega⟩
    rw [Am.evalF_succ, tab13]
    exact Am.trueFn_run _ _ _⟩
end Go.Proofs.Ytkgjghlklniaeaa
