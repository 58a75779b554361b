/-
  No cell of these rows narrows 'for every input' (looked for: loops, veiled, ifaces, maps, wideKeys, modest, calm, conditions, laid).
  DERIVED. THE GIVEN ROWS OF THIS SEAT. 6 by the template 'for every input the law returns true; each argument reads behind the call as it read before'; 0 by the template 'total and deterministic' (their statements: YtkgjghlklniaeaaTotals.lean).
  GIVEN WITH THE SEED: the statements are not yours to turn. If you find one false, say at which input.
  Laid BY PROGRAM, IN A SANDBOX (cutbox-rows.mjs): the forced cells as the released guide's own fill.sh prints them over the translation dc43a75c4deb56f9… (all of the seat's roots in one cut). By AI agents, Wed Nov 11 2026. No macro, syntax, notation, axiom, sorry.
-/
import Derived.Test.YtkgjghlklniaeaaChecked
import GoSem.Claim
import GoSem.ClaimJoined
import GoSem.ClaimMapViews
import Derived.JoinedTies
import Derived.KernelRfl
namespace Go.Proofs.Ytkgjghlklniaeaa
/- THE CELL 'sum', in the pinned program and in every row, IS THE sha256 OF THE DUMP (.gsa) THAT YtkgjghlklniaeaaProg.lean LOADS. Nothing in Lean hashes anything: it is a label: what it is worth is what the hold of that sum in a sandbox is worth. -/
noncomputable def Try.pinned : Pinned := { name := "ytkgjghlklniaeaa", sum := "dc43a75c4deb56f90c37066cab4fd3f0f69036ff4dea1ad06a9800d8945a7364", checked := Try.checked }
namespace Rows
def none {H : Type} : Left H := { results := [], args := [] }

/-- 'draylaw22.WalOthers': WHATEVER THE INPUT: true; the input reads as it did. -/
def walOthersSpec : ChangeSpec := { name := "walOthers", fn := fun _ => fun
  | [d1, d2, d3, d4] => { results := [.lit (.bool true)], args := [d1, d2, d3, d4] }
  | _ => none }
def walOthersRow : OpenClaim := { program := "ytkgjghlklniaeaa", sum := "dc43a75c4deb56f90c37066cab4fd3f0f69036ff4dea1ad06a9800d8945a7364", func := "dray/draylaw22.WalOthers", spec := "walOthers", apart := false }
def WalOthersSaid : Prop := walOthersRow.holds Try.pinned (OpenSpec.ofChange walOthersSpec)

/-- ITS FALSE NEIGHBOUR: 'it returns false'. Refute it at one input. -/
def walOthersWrong : ChangeSpec := { name := "walOthers", fn := fun _ => fun
  | [d1, d2, d3, d4] => { results := [.lit (.bool false)], args := [d1, d2, d3, d4] }
  | _ => none }
def WalOthersWrongFalsely : Prop := walOthersRow.holds Try.pinned (OpenSpec.ofChange walOthersWrong)

/-- 'draylaw22.WalPlays': WHATEVER THE INPUT: true; the input reads as it did. -/
def walPlaysSpec : ChangeSpec := { name := "walPlays", fn := fun _ => fun
  | [d] => { results := [.lit (.bool true)], args := [d] }
  | _ => none }
def walPlaysRow : OpenClaim := { program := "ytkgjghlklniaeaa", sum := "dc43a75c4deb56f90c37066cab4fd3f0f69036ff4dea1ad06a9800d8945a7364", func := "dray/draylaw22.WalPlays", spec := "walPlays", apart := false }
def WalPlaysSaid : Prop := walPlaysRow.holds Try.pinned (OpenSpec.ofChange walPlaysSpec)

/-- ITS FALSE NEIGHBOUR: 'it returns false'. Refute it at one input. -/
def walPlaysWrong : ChangeSpec := { name := "walPlays", fn := fun _ => fun
  | [d] => { results := [.lit (.bool false)], args := [d] }
  | _ => none }
def WalPlaysWrongFalsely : Prop := walPlaysRow.holds Try.pinned (OpenSpec.ofChange walPlaysWrong)

/-- 'draylaw22.WalSmall': WHATEVER THE INPUT: true; the input reads as it did. -/
def walSmallSpec : ChangeSpec := { name := "walSmall", fn := fun _ => fun
  | [d1, d2] => { results := [.lit (.bool true)], args := [d1, d2] }
  | _ => none }
def walSmallRow : OpenClaim := { program := "ytkgjghlklniaeaa", sum := "dc43a75c4deb56f90c37066cab4fd3f0f69036ff4dea1ad06a9800d8945a7364", func := "dray/draylaw22.WalSmall", spec := "walSmall", apart := false }
def WalSmallSaid : Prop := walSmallRow.holds Try.pinned (OpenSpec.ofChange walSmallSpec)

/-- ITS FALSE NEIGHBOUR: 'it returns false'. Refute it at one input. -/
def walSmallWrong : ChangeSpec := { name := "walSmall", fn := fun _ => fun
  | [d1, d2] => { results := [.lit (.bool false)], args := [d1, d2] }
  | _ => none }
def WalSmallWrongFalsely : Prop := walSmallRow.holds Try.pinned (OpenSpec.ofChange walSmallWrong)

/-- 'draylaw22.WalSynced': WHATEVER THE INPUT: true; the input reads as it did. -/
def walSyncedSpec : ChangeSpec := { name := "walSynced", fn := fun _ => fun
  | [d1, d2, d3, d4, d5] => { results := [.lit (.bool true)], args := [d1, d2, d3, d4, d5] }
  | _ => none }
def walSyncedRow : OpenClaim := { program := "ytkgjghlklniaeaa", sum := "dc43a75c4deb56f90c37066cab4fd3f0f69036ff4dea1ad06a9800d8945a7364", func := "dray/draylaw22.WalSynced", spec := "walSynced", apart := false }
def WalSyncedSaid : Prop := walSyncedRow.holds Try.pinned (OpenSpec.ofChange walSyncedSpec)

/-- ITS FALSE NEIGHBOUR: 'it returns false'. Refute it at one input. -/
def walSyncedWrong : ChangeSpec := { name := "walSynced", fn := fun _ => fun
  | [d1, d2, d3, d4, d5] => { results := [.lit (.bool false)], args := [d1, d2, d3, d4, d5] }
  | _ => none }
def WalSyncedWrongFalsely : Prop := walSyncedRow.holds Try.pinned (OpenSpec.ofChange walSyncedWrong)

/-- 'draylaw22.WalMany': WHATEVER THE INPUT: true; the input reads as it did. -/
def walManySpec : ChangeSpec := { name := "walMany", fn := fun _ => fun
  | [d1, d2, d3, d4, d5] => { results := [.lit (.bool true)], args := [d1, d2, d3, d4, d5] }
  | _ => none }
def walManyRow : OpenClaim := { program := "ytkgjghlklniaeaa", sum := "dc43a75c4deb56f90c37066cab4fd3f0f69036ff4dea1ad06a9800d8945a7364", func := "dray/draylaw22.WalMany", spec := "walMany", apart := false }
def WalManySaid : Prop := walManyRow.holds Try.pinned (OpenSpec.ofChange walManySpec)

/-- ITS FALSE NEIGHBOUR: 'it returns false'. Refute it at one input. -/
def walManyWrong : ChangeSpec := { name := "walMany", fn := fun _ => fun
  | [d1, d2, d3, d4, d5] => { results := [.lit (.bool false)], args := [d1, d2, d3, d4, d5] }
  | _ => none }
def WalManyWrongFalsely : Prop := walManyRow.holds Try.pinned (OpenSpec.ofChange walManyWrong)

/-- 'draylaw24.StoreOthers': WHATEVER THE INPUT: true; the input reads as it did. -/
def storeOthersSpec : ChangeSpec := { name := "storeOthers", fn := fun _ => fun
  | [d1, d2, d3, d4] => { results := [.lit (.bool true)], args := [d1, d2, d3, d4] }
  | _ => none }
def storeOthersRow : OpenClaim := { program := "ytkgjghlklniaeaa", sum := "dc43a75c4deb56f90c37066cab4fd3f0f69036ff4dea1ad06a9800d8945a7364", func := "dray/draylaw24.StoreOthers", spec := "storeOthers", apart := false }
def StoreOthersSaid : Prop := storeOthersRow.holds Try.pinned (OpenSpec.ofChange storeOthersSpec)

/-- ITS FALSE NEIGHBOUR: 'it returns false'. Refute it at one input. -/
def storeOthersWrong : ChangeSpec := { name := "storeOthers", fn := fun _ => fun
  | [d1, d2, d3, d4] => { results := [.lit (.bool false)], args := [d1, d2, d3, d4] }
  | _ => none }
def StoreOthersWrongFalsely : Prop := storeOthersRow.holds Try.pinned (OpenSpec.ofChange storeOthersWrong)

/- THE SECOND FORM. 'bulk': how many values and letters a reading holds, each counted each time it is reached (what is shared counts as often as it is met; a slice's spare places count too). A statement '..UptoSaid' is the law's where the arguments, and the package variables that the reading takes, are together of bulk at most 1048576: NARROWER than '..Said'. Prove '..Said' where nothing that the law and all that it calls make is longer than what came in: it says more and counts as full. Else prove '..UptoSaid'. A law counts once. -/
mutual
def uptoBulk {H : Type} : DataW H → Nat
  | .lit (.string bytes) => bytes.length + 1
  | .lit _ => 1
  | .nil => 1
  | .ptr d => uptoBulk d + 1
  | .slice elems spare => uptoBulkAll elems + uptoBulkAll spare + 1
  | .agg parts => uptoBulkAll parts + 1
  | .iface _ d => uptoBulk d + 1
  | .map entries => uptoBulkEntries entries + 1
  | .held _ => 1
def uptoBulkAll {H : Type} : List (DataW H) → Nat
  | [] => 0
  | d :: r => uptoBulk d + uptoBulkAll r
def uptoBulkEntries {H : Type} : List (Lit × DataW H) → Nat
  | [] => 0
  | x :: r => uptoBulkEntry x + uptoBulkEntries r
def uptoBulkEntry {H : Type} : Lit × DataW H → Nat
  | (.string bytes, d) => bytes.length + uptoBulk d + 1
  | (_, d) => uptoBulk d + 1
 end
def uptoSmall : (H : Type) → List (DataW H) → Bool := fun _ ds => decide (uptoBulkAll ds ≤ 1048576)
def OpenSpec.upto (s : _root_.Go.ChangeSpec) : _root_.Go.OpenSpec := { _root_.Go.OpenSpec.ofChange s with cond := some uptoSmall }

/-- 'draylaw22.WalOthers', WHERE WHAT IT READS IS OF BULK AT MOST 1048576: true; the input reads as it did. -/
def walOthersUptoRow : OpenClaim := { program := "ytkgjghlklniaeaa", sum := "dc43a75c4deb56f90c37066cab4fd3f0f69036ff4dea1ad06a9800d8945a7364", func := "dray/draylaw22.WalOthers", spec := "walOthers", apart := false, narrowed := true }
def WalOthersUptoSaid : Prop := walOthersUptoRow.holds Try.pinned (OpenSpec.upto walOthersSpec)

/-- 'draylaw22.WalPlays', WHERE WHAT IT READS IS OF BULK AT MOST 1048576: true; the input reads as it did. -/
def walPlaysUptoRow : OpenClaim := { program := "ytkgjghlklniaeaa", sum := "dc43a75c4deb56f90c37066cab4fd3f0f69036ff4dea1ad06a9800d8945a7364", func := "dray/draylaw22.WalPlays", spec := "walPlays", apart := false, narrowed := true }
def WalPlaysUptoSaid : Prop := walPlaysUptoRow.holds Try.pinned (OpenSpec.upto walPlaysSpec)

/-- 'draylaw22.WalSmall', WHERE WHAT IT READS IS OF BULK AT MOST 1048576: true; the input reads as it did. -/
def walSmallUptoRow : OpenClaim := { program := "ytkgjghlklniaeaa", sum := "dc43a75c4deb56f90c37066cab4fd3f0f69036ff4dea1ad06a9800d8945a7364", func := "dray/draylaw22.WalSmall", spec := "walSmall", apart := false, narrowed := true }
def WalSmallUptoSaid : Prop := walSmallUptoRow.holds Try.pinned (OpenSpec.upto walSmallSpec)

/-- 'draylaw22.WalSynced', WHERE WHAT IT READS IS OF BULK AT MOST 1048576: true; the input reads as it did. -/
def walSyncedUptoRow : OpenClaim := { program := "ytkgjghlklniaeaa", sum := "dc43a75c4deb56f90c37066cab4fd3f0f69036ff4dea1ad06a9800d8945a7364", func := "dray/draylaw22.WalSynced", spec := "walSynced", apart := false, narrowed := true }
def WalSyncedUptoSaid : Prop := walSyncedUptoRow.holds Try.pinned (OpenSpec.upto walSyncedSpec)

/-- 'draylaw22.WalMany', WHERE WHAT IT READS IS OF BULK AT MOST 1048576: true; the input reads as it did. -/
def walManyUptoRow : OpenClaim := { program := "ytkgjghlklniaeaa", sum := "dc43a75c4deb56f90c37066cab4fd3f0f69036ff4dea1ad06a9800d8945a7364", func := "dray/draylaw22.WalMany", spec := "walMany", apart := false, narrowed := true }
def WalManyUptoSaid : Prop := walManyUptoRow.holds Try.pinned (OpenSpec.upto walManySpec)

/-- 'draylaw24.StoreOthers', WHERE WHAT IT READS IS OF BULK AT MOST 1048576: true; the input reads as it did. -/
def storeOthersUptoRow : OpenClaim := { program := "ytkgjghlklniaeaa", sum := "dc43a75c4deb56f90c37066cab4fd3f0f69036ff4dea1ad06a9800d8945a7364", func := "dray/draylaw24.StoreOthers", spec := "storeOthers", apart := false, narrowed := true }
def StoreOthersUptoSaid : Prop := storeOthersUptoRow.holds Try.pinned (OpenSpec.upto storeOthersSpec)

end Rows
end Go.Proofs.Ytkgjghlklniaeaa
