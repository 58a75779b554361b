/-
  DERIVED. GIVEN WITH THE SEED: THE CARDS: each row of YtdolmkdbpnlegaaGreatDoorRows.lean that lists a variable, with what it lists TIED to the program's text (the seventh form; the later family's looks); each row that meets fmt, with fmt's text TOLD by the authors' own Lean function (tested against real Go, not proved from fmt's source: count such statements apart). THE CARD IS WHAT COUNTS. Prove the row's statement (the work); the ties are given (YtdolmkdbpnlegaaGreatDoorTie.lean); close each card by the builder's one call (the guide's Derived/Test/ToyasCard.lean, 'card_holds'). Laid BY PROGRAM, IN A SANDBOX (cutbox-door.mjs). By AI agents, Wed Nov 11 2026. No macro, syntax, notation, axiom, sorry.
-/
import Derived.Test.YtdolmkdbpnlegaaGreatDoorRows
import GoSem.ClaimSeven
namespace Go.Proofs.YtdolmkdbpnlegaaGreatDoor
namespace Rows

/-- THE TIED CARD OF 'draylaw31.ShellParses'. -/
def shellParsesCard : Claim7 := { stood := { row := shellParsesRow, standIns := [], harness := (true, "e235de07547c42cface13bec8e2db12f1e3b09f27b9b0e00dccd165d7d599057"), looks := true }, kinds := [], alts := [], laidByText := true, laidKinds := [.data, .data, .data, .data, .sentinel, .sentinel, .pinned], laidTests := true, laidLooks := .later }
def ShellParsesCardSaid : Prop := Claim7.holds Tryz.pinned (.plain (OpenSpec.ofChange shellParsesSpec)) shellParsesCard

/-- THE TIED CARD OF 'draylaw31.ShellLines'. -/
def shellLinesCard : Claim7 := { stood := { row := shellLinesRow, standIns := [], harness := (true, "e235de07547c42cface13bec8e2db12f1e3b09f27b9b0e00dccd165d7d599057"), looks := true }, kinds := [], alts := [], laidByText := true, laidKinds := [.data, .data, .data, .data, .sentinel, .sentinel, .pinned], laidTests := true, laidLooks := .later }
def ShellLinesCardSaid : Prop := Claim7.holds Tryz.pinned (.plain (OpenSpec.ofChange shellLinesSpec)) shellLinesCard

/-- THE TIED CARD OF 'draylaw31.ShellBack'. -/
def shellBackCard : Claim7 := { stood := { row := shellBackRow, standIns := [], harness := (true, "e235de07547c42cface13bec8e2db12f1e3b09f27b9b0e00dccd165d7d599057"), looks := true }, kinds := [], alts := [], laidByText := true, laidKinds := [.data, .data, .data, .data, .sentinel, .sentinel, .pinned], laidTests := true, laidLooks := .later }
def ShellBackCardSaid : Prop := Claim7.holds Tryz.pinned (.plain (OpenSpec.ofChange shellBackSpec)) shellBackCard

/-- THE SECOND FORM's CARD OF 'draylaw31.ShellParses'. -/
def shellParsesUptoCard : Claim7 := { stood := { row := shellParsesUptoRow, standIns := [], harness := (true, "e235de07547c42cface13bec8e2db12f1e3b09f27b9b0e00dccd165d7d599057"), looks := true }, kinds := [], alts := [], laidByText := true, laidKinds := [.data, .data, .data, .data, .sentinel, .sentinel, .pinned], laidTests := true, laidLooks := .later }
def ShellParsesUptoCardSaid : Prop := Claim7.holds Tryz.pinned (.plain (OpenSpec.upto shellParsesSpec)) shellParsesUptoCard

/-- THE SECOND FORM's CARD OF 'draylaw31.ShellLines'. -/
def shellLinesUptoCard : Claim7 := { stood := { row := shellLinesUptoRow, standIns := [], harness := (true, "e235de07547c42cface13bec8e2db12f1e3b09f27b9b0e00dccd165d7d599057"), looks := true }, kinds := [], alts := [], laidByText := true, laidKinds := [.data, .data, .data, .data, .sentinel, .sentinel, .pinned], laidTests := true, laidLooks := .later }
def ShellLinesUptoCardSaid : Prop := Claim7.holds Tryz.pinned (.plain (OpenSpec.upto shellLinesSpec)) shellLinesUptoCard

/-- THE SECOND FORM's CARD OF 'draylaw31.ShellBack'. -/
def shellBackUptoCard : Claim7 := { stood := { row := shellBackUptoRow, standIns := [], harness := (true, "e235de07547c42cface13bec8e2db12f1e3b09f27b9b0e00dccd165d7d599057"), looks := true }, kinds := [], alts := [], laidByText := true, laidKinds := [.data, .data, .data, .data, .sentinel, .sentinel, .pinned], laidTests := true, laidLooks := .later }
def ShellBackUptoCardSaid : Prop := Claim7.holds Tryz.pinned (.plain (OpenSpec.upto shellBackSpec)) shellBackUptoCard
end Rows
end Go.Proofs.YtdolmkdbpnlegaaGreatDoor
