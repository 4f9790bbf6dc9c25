/-
  DERIVED. GIVEN WITH THE SEED: THE CARDS: each row of YtfpajgmdejlaeaaGreatDoorRows.lean that lists a variable, with what it lists TIED to the program's text (the seventh form; the later family's looks); each row that meets fmt, with fmt's text TOLD by the authors' own Lean function (tested against real Go, not proved from fmt's source: count such statements apart). THE CARD IS WHAT COUNTS. Prove the row's statement (the work); the ties are given (YtfpajgmdejlaeaaGreatDoorTie.lean); close each card by the builder's one call (the guide's Derived/Test/ToyasCard.lean, 'card_holds'). Laid BY PROGRAM, IN A SANDBOX (cutbox-door.mjs). By AI agents, Wed Nov 11 2026. No macro, syntax, notation, axiom, sorry.
-/
import Derived.Test.YtfpajgmdejlaeaaGreatDoorRows
import GoSem.ClaimSeven
namespace Go.Proofs.YtfpajgmdejlaeaaGreatDoor
namespace Rows

/-- THE TIED CARD OF 'wheelhouselaw15.ConfBack'. -/
def confBackCard : Claim7 := { stood := { row := confBackRow, standIns := [], harness := (true, "0b813472b238c63a3906ea104369bff1cf831746fe5a2c3755a06700f7bc72e0"), looks := true }, kinds := [], alts := [], laidByText := true, laidKinds := [.handle], laidTests := true, laidLooks := .later }
def ConfBackCardSaid : Prop := Claim7.holds Tryz.pinned (.plain (OpenSpec.ofChange confBackSpec)) confBackCard

/-- THE TIED CARD OF 'wheelhouselaw15.ConfIs'. -/
def confIsCard : Claim7 := { stood := { row := confIsRow, standIns := [], harness := (true, "0b813472b238c63a3906ea104369bff1cf831746fe5a2c3755a06700f7bc72e0"), looks := true }, kinds := [], alts := [], laidByText := true, laidKinds := [.handle], laidTests := true, laidLooks := .later }
def ConfIsCardSaid : Prop := Claim7.holds Tryz.pinned (.plain (OpenSpec.ofChange confIsSpec)) confIsCard

/-- THE TIED CARD OF 'wheelhouselaw15.ConfLike'. -/
def confLikeCard : Claim7 := { stood := { row := confLikeRow, standIns := [], harness := (true, "0b813472b238c63a3906ea104369bff1cf831746fe5a2c3755a06700f7bc72e0"), looks := true }, kinds := [], alts := [], laidByText := true, laidKinds := [.handle], laidTests := true, laidLooks := .later }
def ConfLikeCardSaid : Prop := Claim7.holds Tryz.pinned (.plain (OpenSpec.ofChange confLikeSpec)) confLikeCard

/-- THE SECOND FORM's CARD OF 'wheelhouselaw15.ConfBack'. -/
def confBackUptoCard : Claim7 := { stood := { row := confBackUptoRow, standIns := [], harness := (true, "0b813472b238c63a3906ea104369bff1cf831746fe5a2c3755a06700f7bc72e0"), looks := true }, kinds := [], alts := [], laidByText := true, laidKinds := [.handle], laidTests := true, laidLooks := .later }
def ConfBackUptoCardSaid : Prop := Claim7.holds Tryz.pinned (.plain (OpenSpec.upto confBackSpec)) confBackUptoCard

/-- THE SECOND FORM's CARD OF 'wheelhouselaw15.ConfIs'. -/
def confIsUptoCard : Claim7 := { stood := { row := confIsUptoRow, standIns := [], harness := (true, "0b813472b238c63a3906ea104369bff1cf831746fe5a2c3755a06700f7bc72e0"), looks := true }, kinds := [], alts := [], laidByText := true, laidKinds := [.handle], laidTests := true, laidLooks := .later }
def ConfIsUptoCardSaid : Prop := Claim7.holds Tryz.pinned (.plain (OpenSpec.upto confIsSpec)) confIsUptoCard

/-- THE SECOND FORM's CARD OF 'wheelhouselaw15.ConfLike'. -/
def confLikeUptoCard : Claim7 := { stood := { row := confLikeUptoRow, standIns := [], harness := (true, "0b813472b238c63a3906ea104369bff1cf831746fe5a2c3755a06700f7bc72e0"), looks := true }, kinds := [], alts := [], laidByText := true, laidKinds := [.handle], laidTests := true, laidLooks := .later }
def ConfLikeUptoCardSaid : Prop := Claim7.holds Tryz.pinned (.plain (OpenSpec.upto confLikeSpec)) confLikeUptoCard
end Rows
end Go.Proofs.YtfpajgmdejlaeaaGreatDoor
