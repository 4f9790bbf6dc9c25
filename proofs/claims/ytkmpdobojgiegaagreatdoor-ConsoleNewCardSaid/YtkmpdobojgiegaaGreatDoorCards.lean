/-
  DERIVED. GIVEN WITH THE SEED: THE CARDS: each row of YtkmpdobojgiegaaGreatDoorRows.lean that lists a variable, with what it lists TIED to the program's text (the seventh form; the later family's looks); each row that meets fmt, with fmt's text TOLD by the authors' own Lean function (tested against real Go, not proved from fmt's source: count such statements apart). THE CARD IS WHAT COUNTS. Prove the row's statement (the work); the ties are given (YtkmpdobojgiegaaGreatDoorTie.lean); close each card by the builder's one call (the guide's Derived/Test/ToyasCard.lean, 'card_holds'). Laid BY PROGRAM, IN A SANDBOX (cutbox-door.mjs). By AI agents, Wed Nov 11 2026. No macro, syntax, notation, axiom, sorry.
-/
import Derived.Test.YtkmpdobojgiegaaGreatDoorRows
import GoSem.ClaimSeven
namespace Go.Proofs.YtkmpdobojgiegaaGreatDoor
namespace Rows

/-- THE TIED CARD OF 'wheelhouselaw33.ConsoleNew'. -/
def consoleNewCard : Claim7 := { stood := { row := consoleNewRow, standIns := [], harness := (true, "3f69dfdb8858f674d109115ba57ecf7dbf02fb32f5d75af0354637e865d15142"), looks := true }, kinds := [], alts := [], laidByText := true, laidKinds := [.handle], laidTests := true, laidLooks := .later }
def ConsoleNewCardSaid : Prop := Claim7.holds Tryz.pinned (.plain (OpenSpec.ofChange consoleNewSpec)) consoleNewCard

/-- THE TIED CARD OF 'wheelhouselaw33.ConsoleAgain'. -/
def consoleAgainCard : Claim7 := { stood := { row := consoleAgainRow, standIns := [], harness := (true, "3f69dfdb8858f674d109115ba57ecf7dbf02fb32f5d75af0354637e865d15142"), looks := true }, kinds := [], alts := [], laidByText := true, laidKinds := [.handle], laidTests := true, laidLooks := .later }
def ConsoleAgainCardSaid : Prop := Claim7.holds Tryz.pinned (.plain (OpenSpec.ofChange consoleAgainSpec)) consoleAgainCard

/-- THE TIED CARD OF 'wheelhouselaw33.ConsoleHand'. -/
def consoleHandCard : Claim7 := { stood := { row := consoleHandRow, standIns := [], harness := (true, "3f69dfdb8858f674d109115ba57ecf7dbf02fb32f5d75af0354637e865d15142"), looks := true }, kinds := [], alts := [], laidByText := true, laidKinds := [.handle], laidTests := true, laidLooks := .later }
def ConsoleHandCardSaid : Prop := Claim7.holds Tryz.pinned (.plain (OpenSpec.ofChange consoleHandSpec)) consoleHandCard

/-- THE TIED CARD OF 'wheelhouselaw33.ConsolePlays'. -/
def consolePlaysCard : Claim7 := { stood := { row := consolePlaysRow, standIns := [], harness := (true, "3f69dfdb8858f674d109115ba57ecf7dbf02fb32f5d75af0354637e865d15142"), looks := true }, kinds := [], alts := [], laidByText := true, laidKinds := [.handle], laidTests := true, laidLooks := .later }
def ConsolePlaysCardSaid : Prop := Claim7.holds Tryz.pinned (.plain (OpenSpec.ofChange consolePlaysSpec)) consolePlaysCard

/-- THE SECOND FORM's CARD OF 'wheelhouselaw33.ConsoleNew'. -/
def consoleNewUptoCard : Claim7 := { stood := { row := consoleNewUptoRow, standIns := [], harness := (true, "3f69dfdb8858f674d109115ba57ecf7dbf02fb32f5d75af0354637e865d15142"), looks := true }, kinds := [], alts := [], laidByText := true, laidKinds := [.handle], laidTests := true, laidLooks := .later }
def ConsoleNewUptoCardSaid : Prop := Claim7.holds Tryz.pinned (.plain (OpenSpec.upto consoleNewSpec)) consoleNewUptoCard

/-- THE SECOND FORM's CARD OF 'wheelhouselaw33.ConsoleAgain'. -/
def consoleAgainUptoCard : Claim7 := { stood := { row := consoleAgainUptoRow, standIns := [], harness := (true, "3f69dfdb8858f674d109115ba57ecf7dbf02fb32f5d75af0354637e865d15142"), looks := true }, kinds := [], alts := [], laidByText := true, laidKinds := [.handle], laidTests := true, laidLooks := .later }
def ConsoleAgainUptoCardSaid : Prop := Claim7.holds Tryz.pinned (.plain (OpenSpec.upto consoleAgainSpec)) consoleAgainUptoCard

/-- THE SECOND FORM's CARD OF 'wheelhouselaw33.ConsoleHand'. -/
def consoleHandUptoCard : Claim7 := { stood := { row := consoleHandUptoRow, standIns := [], harness := (true, "3f69dfdb8858f674d109115ba57ecf7dbf02fb32f5d75af0354637e865d15142"), looks := true }, kinds := [], alts := [], laidByText := true, laidKinds := [.handle], laidTests := true, laidLooks := .later }
def ConsoleHandUptoCardSaid : Prop := Claim7.holds Tryz.pinned (.plain (OpenSpec.upto consoleHandSpec)) consoleHandUptoCard

/-- THE SECOND FORM's CARD OF 'wheelhouselaw33.ConsolePlays'. -/
def consolePlaysUptoCard : Claim7 := { stood := { row := consolePlaysUptoRow, standIns := [], harness := (true, "3f69dfdb8858f674d109115ba57ecf7dbf02fb32f5d75af0354637e865d15142"), looks := true }, kinds := [], alts := [], laidByText := true, laidKinds := [.handle], laidTests := true, laidLooks := .later }
def ConsolePlaysUptoCardSaid : Prop := Claim7.holds Tryz.pinned (.plain (OpenSpec.upto consolePlaysSpec)) consolePlaysUptoCard
end Rows
end Go.Proofs.YtkmpdobojgiegaaGreatDoor
