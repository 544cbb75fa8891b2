/-
  DERIVED. GIVEN WITH THE SEED: THE CARDS: each row of YtdlifdmnfbjokaaDoorRows.lean that lists a variable, with what it lists TIED to the program's text (the seventh form; the later family's looks); each row that meets fmt, with fmt's text TOLD by the authors' own Lean function (tested against real Go, not proved from fmt's source: count such statements apart). THE CARD IS WHAT COUNTS. Prove the row's statement (the work); the ties are given (YtdlifdmnfbjokaaDoorTie.lean); close each card by the builder's one call (the guide's Derived/Test/ToyasCard.lean, 'card_holds'). Laid BY PROGRAM, IN A SANDBOX (cutbox-door.mjs). By AI agents, Wed Nov 11 2026. No macro, syntax, notation, axiom, sorry.
-/
import Derived.Test.YtdlifdmnfbjokaaDoorRows
import GoSem.ClaimSeven
namespace Go.Proofs.YtdlifdmnfbjokaaDoor
namespace Rows

/-- THE TIED CARD OF 'skywaykeep4.ConsoleBack'. -/
def consoleBackCard : Claim7 := { stood := { row := consoleBackRow, standIns := [], harness := (true, "82b0381934895d01262927f1aeef6fd8d99285ff3413c6c91c7f55be02ded9c9"), looks := true }, kinds := [], alts := [], laidByText := true, laidKinds := [.data, .data, .data, .data, .sentinel, .sentinel, .pinned], laidTests := true, laidLooks := .later }
def ConsoleBackCardSaid : Prop := Claim7.holds Tryd.pinned (.plain (OpenSpec.ofChange consoleBackSpec)) consoleBackCard

/-- THE TIED CARD OF 'skywaykeep4.ConsoleScripts'. -/
def consoleScriptsCard : Claim7 := { stood := { row := consoleScriptsRow, standIns := [], harness := (true, "82b0381934895d01262927f1aeef6fd8d99285ff3413c6c91c7f55be02ded9c9"), looks := true }, kinds := [], alts := [], laidByText := true, laidKinds := [.data, .data, .data, .data, .sentinel, .sentinel, .pinned], laidTests := true, laidLooks := .later }
def ConsoleScriptsCardSaid : Prop := Claim7.holds Tryd.pinned (.plain (OpenSpec.ofChange consoleScriptsSpec)) consoleScriptsCard

/-- THE SECOND FORM's CARD OF 'skywaykeep4.ConsoleBack'. -/
def consoleBackUptoCard : Claim7 := { stood := { row := consoleBackUptoRow, standIns := [], harness := (true, "82b0381934895d01262927f1aeef6fd8d99285ff3413c6c91c7f55be02ded9c9"), looks := true }, kinds := [], alts := [], laidByText := true, laidKinds := [.data, .data, .data, .data, .sentinel, .sentinel, .pinned], laidTests := true, laidLooks := .later }
def ConsoleBackUptoCardSaid : Prop := Claim7.holds Tryd.pinned (.plain (OpenSpec.upto consoleBackSpec)) consoleBackUptoCard

/-- THE SECOND FORM's CARD OF 'skywaykeep4.ConsoleScripts'. -/
def consoleScriptsUptoCard : Claim7 := { stood := { row := consoleScriptsUptoRow, standIns := [], harness := (true, "82b0381934895d01262927f1aeef6fd8d99285ff3413c6c91c7f55be02ded9c9"), looks := true }, kinds := [], alts := [], laidByText := true, laidKinds := [.data, .data, .data, .data, .sentinel, .sentinel, .pinned], laidTests := true, laidLooks := .later }
def ConsoleScriptsUptoCardSaid : Prop := Claim7.holds Tryd.pinned (.plain (OpenSpec.upto consoleScriptsSpec)) consoleScriptsUptoCard
end Rows
end Go.Proofs.YtdlifdmnfbjokaaDoor
