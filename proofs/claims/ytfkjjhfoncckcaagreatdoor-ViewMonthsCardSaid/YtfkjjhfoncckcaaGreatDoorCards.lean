/-
  DERIVED. GIVEN WITH THE SEED: THE CARDS: each row of YtfkjjhfoncckcaaGreatDoorRows.lean that lists a variable, with what it lists TIED to the program's text (the seventh form; the later family's looks); each row that meets fmt, with fmt's text TOLD by the authors' own Lean function (tested against real Go, not proved from fmt's source: count such statements apart). THE CARD IS WHAT COUNTS. Prove the row's statement (the work); the ties are given (YtfkjjhfoncckcaaGreatDoorTie.lean); close each card by the builder's one call (the guide's Derived/Test/ToyasCard.lean, 'card_holds'). Laid BY PROGRAM, IN A SANDBOX (cutbox-door.mjs). By AI agents, Wed Nov 11 2026. No macro, syntax, notation, axiom, sorry.
-/
import Derived.Test.YtfkjjhfoncckcaaGreatDoorRows
import GoSem.ClaimSeven
namespace Go.Proofs.YtfkjjhfoncckcaaGreatDoor
namespace Rows

/-- THE TIED CARD OF 'missivelaw45.ViewSafe'. -/
def viewSafeCard : Claim7 := { stood := { row := viewSafeRow, standIns := [], harness := (true, "695fe819016a004e78633e8472dc5a867851ba8ce665aa9573e4b7b961369a0a"), looks := true }, kinds := [], alts := [], laidByText := true, laidKinds := [.data, .data, .data, .data, .sentinel, .sentinel, .pinned], laidTests := true, laidLooks := .later }
def ViewSafeCardSaid : Prop := Claim7.holds Tryz.pinned (.plain (OpenSpec.ofChange viewSafeSpec)) viewSafeCard

/-- THE TIED CARD OF 'missivelaw45.ViewMonths'. -/
def viewMonthsCard : Claim7 := { stood := { row := viewMonthsRow, standIns := [], harness := (true, "695fe819016a004e78633e8472dc5a867851ba8ce665aa9573e4b7b961369a0a"), looks := true }, kinds := [], alts := [], laidByText := true, laidKinds := [.data, .data, .data, .data, .sentinel, .sentinel, .data, .pinned], laidTests := true, laidLooks := .later }
def ViewMonthsCardSaid : Prop := Claim7.holds Tryz.pinned (.plain (OpenSpec.ofChange viewMonthsSpec)) viewMonthsCard

/-- THE SECOND FORM's CARD OF 'missivelaw45.ViewSafe'. -/
def viewSafeUptoCard : Claim7 := { stood := { row := viewSafeUptoRow, standIns := [], harness := (true, "695fe819016a004e78633e8472dc5a867851ba8ce665aa9573e4b7b961369a0a"), looks := true }, kinds := [], alts := [], laidByText := true, laidKinds := [.data, .data, .data, .data, .sentinel, .sentinel, .pinned], laidTests := true, laidLooks := .later }
def ViewSafeUptoCardSaid : Prop := Claim7.holds Tryz.pinned (.plain (OpenSpec.upto viewSafeSpec)) viewSafeUptoCard

/-- THE SECOND FORM's CARD OF 'missivelaw45.ViewMonths'. -/
def viewMonthsUptoCard : Claim7 := { stood := { row := viewMonthsUptoRow, standIns := [], harness := (true, "695fe819016a004e78633e8472dc5a867851ba8ce665aa9573e4b7b961369a0a"), looks := true }, kinds := [], alts := [], laidByText := true, laidKinds := [.data, .data, .data, .data, .sentinel, .sentinel, .data, .pinned], laidTests := true, laidLooks := .later }
def ViewMonthsUptoCardSaid : Prop := Claim7.holds Tryz.pinned (.plain (OpenSpec.upto viewMonthsSpec)) viewMonthsUptoCard
end Rows
end Go.Proofs.YtfkjjhfoncckcaaGreatDoor
