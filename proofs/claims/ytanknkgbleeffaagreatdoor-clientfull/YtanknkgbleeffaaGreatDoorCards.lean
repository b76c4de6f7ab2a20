/-
  DERIVED. GIVEN WITH THE SEED: THE CARDS: each row of YtanknkgbleeffaaGreatDoorRows.lean that lists a variable, with what it lists TIED to the program's text (the seventh form; the later family's looks); each row that meets fmt, with fmt's text TOLD by the authors' own Lean function (tested against real Go, not proved from fmt's source: count such statements apart). THE CARD IS WHAT COUNTS. Prove the row's statement (the work); the ties are given (YtanknkgbleeffaaGreatDoorTie.lean); close each card by the builder's one call (the guide's Derived/Test/ToyasCard.lean, 'card_holds'). Laid BY PROGRAM, IN A SANDBOX (cutbox-door.mjs). By AI agents, Wed Nov 11 2026. No macro, syntax, notation, axiom, sorry.
-/
import Derived.Test.YtanknkgbleeffaaGreatDoorRows
import GoSem.ClaimSeven
namespace Go.Proofs.YtanknkgbleeffaaGreatDoor
namespace Rows

/-- THE TIED CARD OF 'lamplighterlaw44.ClientFull'. -/
def clientFullCard : Claim7 := { stood := { row := clientFullRow, standIns := [], harness := (true, "5ebd343b6d8b012627c89f33fe3ab898f9b51418061e5fd1dfe839af38d98ffa"), looks := true }, kinds := [], alts := [], laidByText := true, laidKinds := [.data, .widerDeep, .data, .pinned], laidTests := true, laidLooks := .later }
def ClientFullCardSaid : Prop := Claim7.holds Tryz.pinned (.plain (OpenSpec.ofChange clientFullSpec)) clientFullCard

/-- THE SECOND FORM's CARD OF 'lamplighterlaw44.ClientFull'. -/
def clientFullUptoCard : Claim7 := { stood := { row := clientFullUptoRow, standIns := [], harness := (true, "5ebd343b6d8b012627c89f33fe3ab898f9b51418061e5fd1dfe839af38d98ffa"), looks := true }, kinds := [], alts := [], laidByText := true, laidKinds := [.data, .widerDeep, .data, .pinned], laidTests := true, laidLooks := .later }
def ClientFullUptoCardSaid : Prop := Claim7.holds Tryz.pinned (.plain (OpenSpec.upto clientFullSpec)) clientFullUptoCard
end Rows
end Go.Proofs.YtanknkgbleeffaaGreatDoor
