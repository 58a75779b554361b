/-
  No cell of these rows narrows 'for every input' (looked for: loops, veiled, ifaces, maps, wideKeys, modest, calm, conditions, laid).
  DERIVED. THE GIVEN ROWS OF THIS SEAT. 6 by the template 'for every input the law returns true; each argument reads behind the call as it read before'; 0 by the template 'total and deterministic' (their statements: YthkpmpopheahoaaTotals.lean).
  GIVEN WITH THE SEED: the statements are not yours to turn. If you find one false, say at which input.
  Laid BY PROGRAM, IN A SANDBOX (cutbox-rows.mjs): the forced cells as the released guide's own fill.sh prints them over the translation 98dcc69f02c2f622… (all of the seat's roots in one cut). By AI agents, Wed Nov 11 2026. No macro, syntax, notation, axiom, sorry.
-/
import Derived.Test.YthkpmpopheahoaaChecked
import GoSem.Claim
import GoSem.ClaimJoined
import GoSem.ClaimMapViews
import Derived.JoinedTies
import Derived.KernelRfl
namespace Go.Proofs.Ythkpmpopheahoaa
/- THE CELL 'sum', in the pinned program and in every row, IS THE sha256 OF THE DUMP (.gsa) THAT YthkpmpopheahoaaProg.lean LOADS. Nothing in Lean hashes anything: it is a label: what it is worth is what the hold of that sum in a sandbox is worth. -/
noncomputable def Try.pinned : Pinned := { name := "ythkpmpopheahoaa", sum := "98dcc69f02c2f622218fcddda832e5d7691cf281312a8eb9a9a6f100d842aa60", checked := Try.checked }
namespace Rows
def none {H : Type} : Left H := { results := [], args := [] }

/-- 'draylaw22.WalRuns': WHATEVER THE INPUT: true; the input reads as it did. -/
def walRunsSpec : ChangeSpec := { name := "walRuns", fn := fun _ => fun
  | [] => { results := [.lit (.bool true)], args := [] }
  | _ => none }
def walRunsRow : OpenClaim := { program := "ythkpmpopheahoaa", sum := "98dcc69f02c2f622218fcddda832e5d7691cf281312a8eb9a9a6f100d842aa60", func := "dray/draylaw22.WalRuns", spec := "walRuns", apart := false }
def WalRunsSaid : Prop := walRunsRow.holds Try.pinned (OpenSpec.ofChange walRunsSpec)

/-- ITS FALSE NEIGHBOUR: 'it returns false'. Refute it at one input. -/
def walRunsWrong : ChangeSpec := { name := "walRuns", fn := fun _ => fun
  | [] => { results := [.lit (.bool false)], args := [] }
  | _ => none }
def WalRunsWrongFalsely : Prop := walRunsRow.holds Try.pinned (OpenSpec.ofChange walRunsWrong)

/-- 'draylaw22.WalOthers': WHATEVER THE INPUT: true; the input reads as it did. -/
def walOthersSpec : ChangeSpec := { name := "walOthers", fn := fun _ => fun
  | [d1, d2, d3, d4] => { results := [.lit (.bool true)], args := [d1, d2, d3, d4] }
  | _ => none }
def walOthersRow : OpenClaim := { program := "ythkpmpopheahoaa", sum := "98dcc69f02c2f622218fcddda832e5d7691cf281312a8eb9a9a6f100d842aa60", func := "dray/draylaw22.WalOthers", spec := "walOthers", apart := false }
def WalOthersSaid : Prop := walOthersRow.holds Try.pinned (OpenSpec.ofChange walOthersSpec)

/-- ITS FALSE NEIGHBOUR: 'it returns false'. Refute it at one input. -/
def walOthersWrong : ChangeSpec := { name := "walOthers", fn := fun _ => fun
  | [d1, d2, d3, d4] => { results := [.lit (.bool false)], args := [d1, d2, d3, d4] }
  | _ => none }
def WalOthersWrongFalsely : Prop := walOthersRow.holds Try.pinned (OpenSpec.ofChange walOthersWrong)

/-- 'draylaw22.WalPlays': WHATEVER THE INPUT: true; the input reads as it did. -/
def walPlaysSpec : ChangeSpec := { name := "walPlays", fn := fun _ => fun
  | [d] => { results := [.lit (.bool true)], args := [d] }
  | _ => none }
def walPlaysRow : OpenClaim := { program := "ythkpmpopheahoaa", sum := "98dcc69f02c2f622218fcddda832e5d7691cf281312a8eb9a9a6f100d842aa60", func := "dray/draylaw22.WalPlays", spec := "walPlays", apart := false }
def WalPlaysSaid : Prop := walPlaysRow.holds Try.pinned (OpenSpec.ofChange walPlaysSpec)

/-- ITS FALSE NEIGHBOUR: 'it returns false'. Refute it at one input. -/
def walPlaysWrong : ChangeSpec := { name := "walPlays", fn := fun _ => fun
  | [d] => { results := [.lit (.bool false)], args := [d] }
  | _ => none }
def WalPlaysWrongFalsely : Prop := walPlaysRow.holds Try.pinned (OpenSpec.ofChange walPlaysWrong)

/-- 'draylaw22.WalSmall': WHATEVER THE INPUT: true; the input reads as it did. -/
def walSmallSpec : ChangeSpec := { name := "walSmall", fn := fun _ => fun
  | [d1, d2] => { results := [.lit (.bool true)], args := [d1, d2] }
  | _ => none }
def walSmallRow : OpenClaim := { program := "ythkpmpopheahoaa", sum := "98dcc69f02c2f622218fcddda832e5d7691cf281312a8eb9a9a6f100d842aa60", func := "dray/draylaw22.WalSmall", spec := "walSmall", apart := false }
def WalSmallSaid : Prop := walSmallRow.holds Try.pinned (OpenSpec.ofChange walSmallSpec)

/-- ITS FALSE NEIGHBOUR: 'it returns false'. Refute it at one input. -/
def walSmallWrong : ChangeSpec := { name := "walSmall", fn := fun _ => fun
  | [d1, d2] => { results := [.lit (.bool false)], args := [d1, d2] }
  | _ => none }
def WalSmallWrongFalsely : Prop := walSmallRow.holds Try.pinned (OpenSpec.ofChange walSmallWrong)

/-- 'draylaw22.WalSynced': WHATEVER THE INPUT: true; the input reads as it did. -/
def walSyncedSpec : ChangeSpec := { name := "walSynced", fn := fun _ => fun
  | [d1, d2, d3, d4, d5] => { results := [.lit (.bool true)], args := [d1, d2, d3, d4, d5] }
  | _ => none }
def walSyncedRow : OpenClaim := { program := "ythkpmpopheahoaa", sum := "98dcc69f02c2f622218fcddda832e5d7691cf281312a8eb9a9a6f100d842aa60", func := "dray/draylaw22.WalSynced", spec := "walSynced", apart := false }
def WalSyncedSaid : Prop := walSyncedRow.holds Try.pinned (OpenSpec.ofChange walSyncedSpec)

/-- ITS FALSE NEIGHBOUR: 'it returns false'. Refute it at one input. -/
def walSyncedWrong : ChangeSpec := { name := "walSynced", fn := fun _ => fun
  | [d1, d2, d3, d4, d5] => { results := [.lit (.bool false)], args := [d1, d2, d3, d4, d5] }
  | _ => none }
def WalSyncedWrongFalsely : Prop := walSyncedRow.holds Try.pinned (OpenSpec.ofChange walSyncedWrong)

/-- 'draylaw22.WalMany': WHATEVER THE INPUT: true; the input reads as it did. -/
def walManySpec : ChangeSpec := { name := "walMany", fn := fun _ => fun
  | [d1, d2, d3, d4, d5] => { results := [.lit (.bool true)], args := [d1, d2, d3, d4, d5] }
  | _ => none }
def walManyRow : OpenClaim := { program := "ythkpmpopheahoaa", sum := "98dcc69f02c2f622218fcddda832e5d7691cf281312a8eb9a9a6f100d842aa60", func := "dray/draylaw22.WalMany", spec := "walMany", apart := false }
def WalManySaid : Prop := walManyRow.holds Try.pinned (OpenSpec.ofChange walManySpec)

/-- ITS FALSE NEIGHBOUR: 'it returns false'. Refute it at one input. -/
def walManyWrong : ChangeSpec := { name := "walMany", fn := fun _ => fun
  | [d1, d2, d3, d4, d5] => { results := [.lit (.bool false)], args := [d1, d2, d3, d4, d5] }
  | _ => none }
def WalManyWrongFalsely : Prop := walManyRow.holds Try.pinned (OpenSpec.ofChange walManyWrong)

/- THE SECOND FORM. 'bulk': how many values and letters a reading holds, each counted each time it is reached (what is shared counts as often as it is met; a slice's spare places count too). A statement '..UptoSaid' is the law's where the arguments, and the package variables that the reading takes, are together of bulk at most 1048576: NARROWER than '..Said'. Prove '..Said' where nothing that the law and all that it calls make is longer than what came in: it says more and counts as full. Else prove '..UptoSaid'. A law counts once. -/
mutual
def uptoBulk {H : Type} : DataW H → Nat
  | .lit (.string bytes) => bytes.length + 1
  | .lit _ => 1
  | .nil => 1
  | .ptr d => uptoBulk d + 1
  | .slice elems spare => uptoBulkAll elems + uptoBulkAll spare + 1
  | .agg parts => uptoBulkAll parts + 1
  | .iface _ d => uptoBulk d + 1
  | .map entries => uptoBulkEntries entries + 1
  | .held _ => 1
def uptoBulkAll {H : Type} : List (DataW H) → Nat
  | [] => 0
  | d :: r => uptoBulk d + uptoBulkAll r
def uptoBulkEntries {H : Type} : List (Lit × DataW H) → Nat
  | [] => 0
  | x :: r => uptoBulkEntry x + uptoBulkEntries r
def uptoBulkEntry {H : Type} : Lit × DataW H → Nat
  | (.string bytes, d) => bytes.length + uptoBulk d + 1
  | (_, d) => uptoBulk d + 1
 end
def uptoSmall : (H : Type) → List (DataW H) → Bool := fun _ ds => decide (uptoBulkAll ds ≤ 1048576)
def OpenSpec.upto (s : _root_.Go.ChangeSpec) : _root_.Go.OpenSpec := { _root_.Go.OpenSpec.ofChange s with cond := some uptoSmall }

/-- 'draylaw22.WalRuns', WHERE WHAT IT READS IS OF BULK AT MOST 1048576: true; the input reads as it did. -/
def walRunsUptoRow : OpenClaim := { program := "ythkpmpopheahoaa", sum := "98dcc69f02c2f622218fcddda832e5d7691cf281312a8eb9a9a6f100d842aa60", func := "dray/draylaw22.WalRuns", spec := "walRuns", apart := false, narrowed := true }
def WalRunsUptoSaid : Prop := walRunsUptoRow.holds Try.pinned (OpenSpec.upto walRunsSpec)

/-- 'draylaw22.WalOthers', WHERE WHAT IT READS IS OF BULK AT MOST 1048576: true; the input reads as it did. -/
def walOthersUptoRow : OpenClaim := { program := "ythkpmpopheahoaa", sum := "98dcc69f02c2f622218fcddda832e5d7691cf281312a8eb9a9a6f100d842aa60", func := "dray/draylaw22.WalOthers", spec := "walOthers", apart := false, narrowed := true }
def WalOthersUptoSaid : Prop := walOthersUptoRow.holds Try.pinned (OpenSpec.upto walOthersSpec)

/-- 'draylaw22.WalPlays', WHERE WHAT IT READS IS OF BULK AT MOST 1048576: true; the input reads as it did. -/
def walPlaysUptoRow : OpenClaim := { program := "ythkpmpopheahoaa", sum := "98dcc69f02c2f622218fcddda832e5d7691cf281312a8eb9a9a6f100d842aa60", func := "dray/draylaw22.WalPlays", spec := "walPlays", apart := false, narrowed := true }
def WalPlaysUptoSaid : Prop := walPlaysUptoRow.holds Try.pinned (OpenSpec.upto walPlaysSpec)

/-- 'draylaw22.WalSmall', WHERE WHAT IT READS IS OF BULK AT MOST 1048576: true; the input reads as it did. -/
def walSmallUptoRow : OpenClaim := { program := "ythkpmpopheahoaa", sum := "98dcc69f02c2f622218fcddda832e5d7691cf281312a8eb9a9a6f100d842aa60", func := "dray/draylaw22.WalSmall", spec := "walSmall", apart := false, narrowed := true }
def WalSmallUptoSaid : Prop := walSmallUptoRow.holds Try.pinned (OpenSpec.upto walSmallSpec)

/-- 'draylaw22.WalSynced', WHERE WHAT IT READS IS OF BULK AT MOST 1048576: true; the input reads as it did. -/
def walSyncedUptoRow : OpenClaim := { program := "ythkpmpopheahoaa", sum := "98dcc69f02c2f622218fcddda832e5d7691cf281312a8eb9a9a6f100d842aa60", func := "dray/draylaw22.WalSynced", spec := "walSynced", apart := false, narrowed := true }
def WalSyncedUptoSaid : Prop := walSyncedUptoRow.holds Try.pinned (OpenSpec.upto walSyncedSpec)

/-- 'draylaw22.WalMany', WHERE WHAT IT READS IS OF BULK AT MOST 1048576: true; the input reads as it did. -/
def walManyUptoRow : OpenClaim := { program := "ythkpmpopheahoaa", sum := "98dcc69f02c2f622218fcddda832e5d7691cf281312a8eb9a9a6f100d842aa60", func := "dray/draylaw22.WalMany", spec := "walMany", apart := false, narrowed := true }
def WalManyUptoSaid : Prop := walManyUptoRow.holds Try.pinned (OpenSpec.upto walManySpec)

end Rows
end Go.Proofs.Ythkpmpopheahoaa
