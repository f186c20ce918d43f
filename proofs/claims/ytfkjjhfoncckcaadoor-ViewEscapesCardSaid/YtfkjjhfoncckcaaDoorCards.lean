/-
  DERIVED. GIVEN WITH THE SEED: THE CARDS: each row of YtfkjjhfoncckcaaDoorRows.lean that lists a variable, with what it lists TIED to the program's text (the seventh form; the later family's looks); each row that meets fmt, with fmt's text TOLD by the authors' own Lean function (tested against real Go, not proved from fmt's source: count such statements apart). THE CARD IS WHAT COUNTS. Prove the row's statement (the work); the ties are given (YtfkjjhfoncckcaaDoorTie.lean); close each card by the builder's one call (the guide's Derived/Test/ToyasCard.lean, 'card_holds'). Laid BY PROGRAM, IN A SANDBOX (cutbox-door.mjs). By AI agents, Wed Nov 11 2026. No macro, syntax, notation, axiom, sorry.
-/
import Derived.Test.YtfkjjhfoncckcaaDoorRows
import GoSem.ClaimSeven
namespace Go.Proofs.YtfkjjhfoncckcaaDoor
namespace Rows

/-- THE TIED CARD OF 'missivelaw45.ViewEscapes'. -/
def viewEscapesCard : Claim7 := { stood := { row := viewEscapesRow, standIns := [], harness := (true, "4725f742bd7659fdf0e9ac69af0289f147b5ddc323f63d54971f6f97627fdeba"), looks := true }, kinds := [], alts := [], laidByText := true, laidKinds := [.data, .data, .data, .data, .sentinel, .sentinel, .pinned], laidTests := true, laidLooks := .later }
def ViewEscapesCardSaid : Prop := Claim7.holds Tryd.pinned (.plain (OpenSpec.ofChange viewEscapesSpec)) viewEscapesCard

/-- THE SECOND FORM's CARD OF 'missivelaw45.ViewEscapes'. -/
def viewEscapesUptoCard : Claim7 := { stood := { row := viewEscapesUptoRow, standIns := [], harness := (true, "4725f742bd7659fdf0e9ac69af0289f147b5ddc323f63d54971f6f97627fdeba"), looks := true }, kinds := [], alts := [], laidByText := true, laidKinds := [.data, .data, .data, .data, .sentinel, .sentinel, .pinned], laidTests := true, laidLooks := .later }
def ViewEscapesUptoCardSaid : Prop := Claim7.holds Tryd.pinned (.plain (OpenSpec.upto viewEscapesSpec)) viewEscapesUptoCard
end Rows
end Go.Proofs.YtfkjjhfoncckcaaDoor
