/-
  DERIVED. GIVEN WITH THE SEED: THE CARDS: each row of YtakgnkjopbflbaaGreatDoorRows.lean that lists a variable, with what it lists TIED to the program's text (the seventh form; the later family's looks); each row that meets fmt, with fmt's text TOLD by the authors' own Lean function (tested against real Go, not proved from fmt's source: count such statements apart). THE CARD IS WHAT COUNTS. Prove the row's statement (the work); the ties are given (YtakgnkjopbflbaaGreatDoorTie.lean); close each card by the builder's one call (the guide's Derived/Test/ToyasCard.lean, 'card_holds'). Laid BY PROGRAM, IN A SANDBOX (cutbox-door.mjs). By AI agents, Wed Nov 11 2026. No macro, syntax, notation, axiom, sorry.
-/
import Derived.Test.YtakgnkjopbflbaaGreatDoorRows
import GoSem.ClaimSeven
namespace Go.Proofs.YtakgnkjopbflbaaGreatDoor
namespace Rows

/-- THE TIED CARD OF 'dominolaw24.CoordNil'. -/
def coordNilCard : Claim7 := { stood := { row := coordNilRow, standIns := [], harness := (true, "be9e971a0d4b5163b86d2ee7048fba0b96f90ce47237ae00478bafff251b5760"), looks := false }, kinds := [], alts := [], laidByText := true, laidKinds := [.data, .data, .data], laidTests := true, laidLooks := .later }
def CoordNilCardSaid : Prop := Claim7.holds Tryz.pinned (.plain (OpenSpec.ofChange coordNilSpec)) coordNilCard

/-- THE TIED CARD OF 'dominolaw24.CoordIdle'. -/
def coordIdleCard : Claim7 := { stood := { row := coordIdleRow, standIns := [], harness := (true, "be9e971a0d4b5163b86d2ee7048fba0b96f90ce47237ae00478bafff251b5760"), looks := false }, kinds := [], alts := [], laidByText := true, laidKinds := [.data, .data, .data], laidTests := true, laidLooks := .later }
def CoordIdleCardSaid : Prop := Claim7.holds Tryz.pinned (.plain (OpenSpec.ofChange coordIdleSpec)) coordIdleCard

/-- THE SECOND FORM's CARD OF 'dominolaw24.CoordNil'. -/
def coordNilUptoCard : Claim7 := { stood := { row := coordNilUptoRow, standIns := [], harness := (true, "be9e971a0d4b5163b86d2ee7048fba0b96f90ce47237ae00478bafff251b5760"), looks := false }, kinds := [], alts := [], laidByText := true, laidKinds := [.data, .data, .data], laidTests := true, laidLooks := .later }
def CoordNilUptoCardSaid : Prop := Claim7.holds Tryz.pinned (.plain (OpenSpec.upto coordNilSpec)) coordNilUptoCard

/-- THE SECOND FORM's CARD OF 'dominolaw24.CoordIdle'. -/
def coordIdleUptoCard : Claim7 := { stood := { row := coordIdleUptoRow, standIns := [], harness := (true, "be9e971a0d4b5163b86d2ee7048fba0b96f90ce47237ae00478bafff251b5760"), looks := false }, kinds := [], alts := [], laidByText := true, laidKinds := [.data, .data, .data], laidTests := true, laidLooks := .later }
def CoordIdleUptoCardSaid : Prop := Claim7.holds Tryz.pinned (.plain (OpenSpec.upto coordIdleSpec)) coordIdleUptoCard
end Rows
end Go.Proofs.YtakgnkjopbflbaaGreatDoor
