/-
  DERIVED. GIVEN WITH THE SEED: THE CARDS: each row of YtaeociedjdgdfaaDoorRows.lean that lists a variable, with what it lists TIED to the program's text (the seventh form; the later family's looks); each row that meets fmt, with fmt's text TOLD by the authors' own Lean function (tested against real Go, not proved from fmt's source: count such statements apart). THE CARD IS WHAT COUNTS. Prove the row's statement (the work); the ties are given (YtaeociedjdgdfaaDoorTie.lean); close each card by the builder's one call (the guide's Derived/Test/ToyasCard.lean, 'card_holds'). Laid BY PROGRAM, IN A SANDBOX (cutbox-door.mjs). By AI agents, Wed Nov 11 2026. No macro, syntax, notation, axiom, sorry.
-/
import Derived.Test.YtaeociedjdgdfaaDoorRows
import GoSem.ClaimSeven
namespace Go.Proofs.YtaeociedjdgdfaaDoor
namespace Rows

/-- THE TIED CARD OF 'dominolaw22.JournalNil'. -/
def journalNilCard : Claim7 := { stood := { row := journalNilRow, standIns := [], harness := (true, "49db22bddcb1a0acd7125e45ab461c736033417cad65237429e5d4b4cc7b2735"), looks := false }, kinds := [], alts := [], laidByText := true, laidKinds := [.data, .data, .data], laidTests := true, laidLooks := .later }
def JournalNilCardSaid : Prop := Claim7.holds Tryd.pinned (.plain (OpenSpec.ofChange journalNilSpec)) journalNilCard

/-- THE TIED CARD OF 'dominolaw22.JournalAdopts'. -/
def journalAdoptsCard : Claim7 := { stood := { row := journalAdoptsRow, standIns := [], harness := (true, "49db22bddcb1a0acd7125e45ab461c736033417cad65237429e5d4b4cc7b2735"), looks := false }, kinds := [], alts := [], laidByText := true, laidKinds := [.data, .data, .data], laidTests := true, laidLooks := .later }
def JournalAdoptsCardSaid : Prop := Claim7.holds Tryd.pinned (.plain (OpenSpec.ofChange journalAdoptsSpec)) journalAdoptsCard

/-- THE SECOND FORM's CARD OF 'dominolaw22.JournalNil'. -/
def journalNilUptoCard : Claim7 := { stood := { row := journalNilUptoRow, standIns := [], harness := (true, "49db22bddcb1a0acd7125e45ab461c736033417cad65237429e5d4b4cc7b2735"), looks := false }, kinds := [], alts := [], laidByText := true, laidKinds := [.data, .data, .data], laidTests := true, laidLooks := .later }
def JournalNilUptoCardSaid : Prop := Claim7.holds Tryd.pinned (.plain (OpenSpec.upto journalNilSpec)) journalNilUptoCard

/-- THE SECOND FORM's CARD OF 'dominolaw22.JournalAdopts'. -/
def journalAdoptsUptoCard : Claim7 := { stood := { row := journalAdoptsUptoRow, standIns := [], harness := (true, "49db22bddcb1a0acd7125e45ab461c736033417cad65237429e5d4b4cc7b2735"), looks := false }, kinds := [], alts := [], laidByText := true, laidKinds := [.data, .data, .data], laidTests := true, laidLooks := .later }
def JournalAdoptsUptoCardSaid : Prop := Claim7.holds Tryd.pinned (.plain (OpenSpec.upto journalAdoptsSpec)) journalAdoptsUptoCard
end Rows
end Go.Proofs.YtaeociedjdgdfaaDoor
