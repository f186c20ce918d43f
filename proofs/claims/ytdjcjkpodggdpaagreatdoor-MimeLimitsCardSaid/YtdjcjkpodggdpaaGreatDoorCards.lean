/-
  DERIVED. GIVEN WITH THE SEED: THE CARDS: each row of YtdjcjkpodggdpaaGreatDoorRows.lean that lists a variable, with what it lists TIED to the program's text (the seventh form; the later family's looks); each row that meets fmt, with fmt's text TOLD by the authors' own Lean function (tested against real Go, not proved from fmt's source: count such statements apart). THE CARD IS WHAT COUNTS. Prove the row's statement (the work); the ties are given (YtdjcjkpodggdpaaGreatDoorTie.lean); close each card by the builder's one call (the guide's Derived/Test/ToyasCard.lean, 'card_holds'). Laid BY PROGRAM, IN A SANDBOX (cutbox-door.mjs). By AI agents, Wed Nov 11 2026. No macro, syntax, notation, axiom, sorry.
-/
import Derived.Test.YtdjcjkpodggdpaaGreatDoorRows
import GoSem.ClaimSeven
namespace Go.Proofs.YtdjcjkpodggdpaaGreatDoor
namespace Rows

/-- THE TIED CARD OF 'missivelaw13.MimeLimits'. -/
def mimeLimitsCard : Claim7 := { stood := { row := mimeLimitsRow, standIns := [], harness := (true, "53a9f556f408d829eebb2833fa0a0fcbfc28d0dc165879f7bec6e5d64cebdfd5"), looks := false }, kinds := [], alts := [], laidByText := true, laidKinds := [.data, .pinned], laidTests := true, laidLooks := .later }
def MimeLimitsCardSaid : Prop := Claim7.holds Tryz.pinned (.plain (OpenSpec.ofChange mimeLimitsSpec)) mimeLimitsCard

/-- THE SECOND FORM's CARD OF 'missivelaw13.MimeLimits'. -/
def mimeLimitsUptoCard : Claim7 := { stood := { row := mimeLimitsUptoRow, standIns := [], harness := (true, "53a9f556f408d829eebb2833fa0a0fcbfc28d0dc165879f7bec6e5d64cebdfd5"), looks := false }, kinds := [], alts := [], laidByText := true, laidKinds := [.data, .pinned], laidTests := true, laidLooks := .later }
def MimeLimitsUptoCardSaid : Prop := Claim7.holds Tryz.pinned (.plain (OpenSpec.upto mimeLimitsSpec)) mimeLimitsUptoCard
end Rows
end Go.Proofs.YtdjcjkpodggdpaaGreatDoor
