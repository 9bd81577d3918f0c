/-
  DERIVED. GIVEN WITH THE SEED: THE CARDS: each row of YtaeociedjdgdfaaGreatDoorRows.lean that lists a variable, with what it lists TIED to the program's text (the seventh form; the later family's looks); each row that meets fmt, with fmt's text TOLD by the authors' own Lean function (tested against real Go, not proved from fmt's source: count such statements apart). THE CARD IS WHAT COUNTS. Prove the row's statement (the work); the ties are given (YtaeociedjdgdfaaGreatDoorTie.lean); close each card by the builder's one call (the guide's Derived/Test/ToyasCard.lean, 'card_holds'). Laid BY PROGRAM, IN A SANDBOX (cutbox-door.mjs). By AI agents, Wed Nov 11 2026. No macro, syntax, notation, axiom, sorry.
-/
import Derived.Test.YtaeociedjdgdfaaGreatDoorRows
import GoSem.ClaimSeven
namespace Go.Proofs.YtaeociedjdgdfaaGreatDoor
namespace Rows

/-- THE TIED CARD OF 'dominolaw22.JournalOther'. -/
def journalOtherCard : Claim7 := { stood := { row := journalOtherRow, standIns := [], harness := (true, "471d86ff024037794c3c82522131535f7692db5b923cae9b92a3af9fbb69ceab"), looks := false }, kinds := [], alts := [], laidByText := true, laidKinds := [.data, .data, .data], laidTests := true, laidLooks := .later }
def JournalOtherCardSaid : Prop := Claim7.holds Tryz.pinned (.plain (OpenSpec.ofChange journalOtherSpec)) journalOtherCard

/-- THE TIED CARD OF 'dominolaw22.JournalOld'. -/
def journalOldCard : Claim7 := { stood := { row := journalOldRow, standIns := [], harness := (true, "471d86ff024037794c3c82522131535f7692db5b923cae9b92a3af9fbb69ceab"), looks := false }, kinds := [], alts := [], laidByText := true, laidKinds := [.data, .data, .data], laidTests := true, laidLooks := .later }
def JournalOldCardSaid : Prop := Claim7.holds Tryz.pinned (.plain (OpenSpec.ofChange journalOldSpec)) journalOldCard

/-- THE TIED CARD OF 'dominolaw22.JournalPlays'. -/
def journalPlaysCard : Claim7 := { stood := { row := journalPlaysRow, standIns := [], harness := (true, "471d86ff024037794c3c82522131535f7692db5b923cae9b92a3af9fbb69ceab"), looks := false }, kinds := [], alts := [], laidByText := true, laidKinds := [.data, .data, .data], laidTests := true, laidLooks := .later }
def JournalPlaysCardSaid : Prop := Claim7.holds Tryz.pinned (.plain (OpenSpec.ofChange journalPlaysSpec)) journalPlaysCard

/-- THE SECOND FORM's CARD OF 'dominolaw22.JournalOther'. -/
def journalOtherUptoCard : Claim7 := { stood := { row := journalOtherUptoRow, standIns := [], harness := (true, "471d86ff024037794c3c82522131535f7692db5b923cae9b92a3af9fbb69ceab"), looks := false }, kinds := [], alts := [], laidByText := true, laidKinds := [.data, .data, .data], laidTests := true, laidLooks := .later }
def JournalOtherUptoCardSaid : Prop := Claim7.holds Tryz.pinned (.plain (OpenSpec.upto journalOtherSpec)) journalOtherUptoCard

/-- THE SECOND FORM's CARD OF 'dominolaw22.JournalOld'. -/
def journalOldUptoCard : Claim7 := { stood := { row := journalOldUptoRow, standIns := [], harness := (true, "471d86ff024037794c3c82522131535f7692db5b923cae9b92a3af9fbb69ceab"), looks := false }, kinds := [], alts := [], laidByText := true, laidKinds := [.data, .data, .data], laidTests := true, laidLooks := .later }
def JournalOldUptoCardSaid : Prop := Claim7.holds Tryz.pinned (.plain (OpenSpec.upto journalOldSpec)) journalOldUptoCard

/-- THE SECOND FORM's CARD OF 'dominolaw22.JournalPlays'. -/
def journalPlaysUptoCard : Claim7 := { stood := { row := journalPlaysUptoRow, standIns := [], harness := (true, "471d86ff024037794c3c82522131535f7692db5b923cae9b92a3af9fbb69ceab"), looks := false }, kinds := [], alts := [], laidByText := true, laidKinds := [.data, .data, .data], laidTests := true, laidLooks := .later }
def JournalPlaysUptoCardSaid : Prop := Claim7.holds Tryz.pinned (.plain (OpenSpec.upto journalPlaysSpec)) journalPlaysUptoCard
end Rows
end Go.Proofs.YtaeociedjdgdfaaGreatDoor
