/-
  DERIVED. GIVEN WITH THE SEED: THE CARDS: each row of YtgpfmkkkpdpdfaaDoorRows.lean that lists a variable, with what it lists TIED to the program's text (the seventh form; the later family's looks); each row that meets fmt, with fmt's text TOLD by the authors' own Lean function (tested against real Go, not proved from fmt's source: count such statements apart). THE CARD IS WHAT COUNTS. Prove the row's statement (the work); the ties are given (YtgpfmkkkpdpdfaaDoorTie.lean); close each card by the builder's one call (the guide's Derived/Test/ToyasCard.lean, 'card_holds'). Laid BY PROGRAM, IN A SANDBOX (cutbox-door.mjs). By AI agents, Wed Nov 11 2026. No macro, syntax, notation, axiom, sorry.
-/
import Derived.Test.YtgpfmkkkpdpdfaaDoorRows
import GoSem.ClaimSeven
namespace Go.Proofs.YtgpfmkkkpdpdfaaDoor
namespace Rows

/-- THE TIED CARD OF 'wheelhouselaw21.GensNames'. -/
def gensNamesCard : Claim7 := { stood := { row := gensNamesRow, standIns := [], harness := (true, "764e27271ef02a1d623e9f514234d8d0ae0b7b8f8d82478a80e912d7b60cc906"), looks := true }, kinds := [], alts := [], laidByText := true, laidKinds := [.handle], laidTests := true, laidLooks := .later }
def GensNamesCardSaid : Prop := Claim7.holds Tryd.pinned (.plain (OpenSpec.ofChange gensNamesSpec)) gensNamesCard

/-- THE TIED CARD OF 'wheelhouselaw21.GensKeeps'. -/
def gensKeepsCard : Claim7 := { stood := { row := gensKeepsRow, standIns := [], harness := (true, "764e27271ef02a1d623e9f514234d8d0ae0b7b8f8d82478a80e912d7b60cc906"), looks := true }, kinds := [], alts := [], laidByText := true, laidKinds := [.handle], laidTests := true, laidLooks := .later }
def GensKeepsCardSaid : Prop := Claim7.holds Tryd.pinned (.plain (OpenSpec.ofChange gensKeepsSpec)) gensKeepsCard

/-- THE TIED CARD OF 'wheelhouselaw34.BoardTables'. -/
def boardTablesCard : Claim7 := { stood := { row := boardTablesRow, standIns := [], harness := (true, "764e27271ef02a1d623e9f514234d8d0ae0b7b8f8d82478a80e912d7b60cc906"), looks := true }, kinds := [], alts := [], laidByText := true, laidKinds := [.data, .pinned], laidTests := true, laidLooks := .later }
def BoardTablesCardSaid : Prop := Claim7.holds Tryd.pinned (.plain (OpenSpec.ofChange boardTablesSpec)) boardTablesCard

/-- THE TIED CARD OF 'wheelhouselaw34.BoardWords'. -/
def boardWordsCard : Claim7 := { stood := { row := boardWordsRow, standIns := [], harness := (true, "764e27271ef02a1d623e9f514234d8d0ae0b7b8f8d82478a80e912d7b60cc906"), looks := true }, kinds := [], alts := [], laidByText := true, laidKinds := [.data, .pinned], laidTests := true, laidLooks := .later }
def BoardWordsCardSaid : Prop := Claim7.holds Tryd.pinned (.plain (OpenSpec.ofChange boardWordsSpec)) boardWordsCard

/-- THE TIED CARD OF 'wheelhouselaw11.StoreFails'. -/
def storeFailsCard : Claim7 := { stood := { row := storeFailsRow, standIns := [], harness := (true, "764e27271ef02a1d623e9f514234d8d0ae0b7b8f8d82478a80e912d7b60cc906"), looks := true }, kinds := [], alts := [], laidByText := true, laidKinds := [.handle], laidTests := true, laidLooks := .later }
def StoreFailsCardSaid : Prop := Claim7.holds Tryd.pinned (.plain (OpenSpec.ofChange storeFailsSpec)) storeFailsCard

/-- THE TIED CARD OF 'wheelhouselaw11.StorePlays'. -/
def storePlaysCard : Claim7 := { stood := { row := storePlaysRow, standIns := [], harness := (true, "764e27271ef02a1d623e9f514234d8d0ae0b7b8f8d82478a80e912d7b60cc906"), looks := true }, kinds := [], alts := [], laidByText := true, laidKinds := [.handle], laidTests := true, laidLooks := .later }
def StorePlaysCardSaid : Prop := Claim7.holds Tryd.pinned (.plain (OpenSpec.ofChange storePlaysSpec)) storePlaysCard

/-- THE TIED CARD OF 'wheelhouselaw11.StoreSure'. -/
def storeSureCard : Claim7 := { stood := { row := storeSureRow, standIns := [], harness := (true, "764e27271ef02a1d623e9f514234d8d0ae0b7b8f8d82478a80e912d7b60cc906"), looks := true }, kinds := [], alts := [], laidByText := true, laidKinds := [.handle], laidTests := true, laidLooks := .later }
def StoreSureCardSaid : Prop := Claim7.holds Tryd.pinned (.plain (OpenSpec.ofChange storeSureSpec)) storeSureCard

/-- THE TIED CARD OF 'wheelhouselaw11.StoreNone'. -/
def storeNoneCard : Claim7 := { stood := { row := storeNoneRow, standIns := [], harness := (true, "764e27271ef02a1d623e9f514234d8d0ae0b7b8f8d82478a80e912d7b60cc906"), looks := true }, kinds := [], alts := [], laidByText := true, laidKinds := [.handle], laidTests := true, laidLooks := .later }
def StoreNoneCardSaid : Prop := Claim7.holds Tryd.pinned (.plain (OpenSpec.ofChange storeNoneSpec)) storeNoneCard

/-- THE SECOND FORM's CARD OF 'wheelhouselaw21.GensNames'. -/
def gensNamesUptoCard : Claim7 := { stood := { row := gensNamesUptoRow, standIns := [], harness := (true, "764e27271ef02a1d623e9f514234d8d0ae0b7b8f8d82478a80e912d7b60cc906"), looks := true }, kinds := [], alts := [], laidByText := true, laidKinds := [.handle], laidTests := true, laidLooks := .later }
def GensNamesUptoCardSaid : Prop := Claim7.holds Tryd.pinned (.plain (OpenSpec.upto gensNamesSpec)) gensNamesUptoCard

/-- THE SECOND FORM's CARD OF 'wheelhouselaw21.GensKeeps'. -/
def gensKeepsUptoCard : Claim7 := { stood := { row := gensKeepsUptoRow, standIns := [], harness := (true, "764e27271ef02a1d623e9f514234d8d0ae0b7b8f8d82478a80e912d7b60cc906"), looks := true }, kinds := [], alts := [], laidByText := true, laidKinds := [.handle], laidTests := true, laidLooks := .later }
def GensKeepsUptoCardSaid : Prop := Claim7.holds Tryd.pinned (.plain (OpenSpec.upto gensKeepsSpec)) gensKeepsUptoCard

/-- THE SECOND FORM's CARD OF 'wheelhouselaw34.BoardTables'. -/
def boardTablesUptoCard : Claim7 := { stood := { row := boardTablesUptoRow, standIns := [], harness := (true, "764e27271ef02a1d623e9f514234d8d0ae0b7b8f8d82478a80e912d7b60cc906"), looks := true }, kinds := [], alts := [], laidByText := true, laidKinds := [.data, .pinned], laidTests := true, laidLooks := .later }
def BoardTablesUptoCardSaid : Prop := Claim7.holds Tryd.pinned (.plain (OpenSpec.upto boardTablesSpec)) boardTablesUptoCard

/-- THE SECOND FORM's CARD OF 'wheelhouselaw34.BoardWords'. -/
def boardWordsUptoCard : Claim7 := { stood := { row := boardWordsUptoRow, standIns := [], harness := (true, "764e27271ef02a1d623e9f514234d8d0ae0b7b8f8d82478a80e912d7b60cc906"), looks := true }, kinds := [], alts := [], laidByText := true, laidKinds := [.data, .pinned], laidTests := true, laidLooks := .later }
def BoardWordsUptoCardSaid : Prop := Claim7.holds Tryd.pinned (.plain (OpenSpec.upto boardWordsSpec)) boardWordsUptoCard

/-- THE SECOND FORM's CARD OF 'wheelhouselaw11.StoreFails'. -/
def storeFailsUptoCard : Claim7 := { stood := { row := storeFailsUptoRow, standIns := [], harness := (true, "764e27271ef02a1d623e9f514234d8d0ae0b7b8f8d82478a80e912d7b60cc906"), looks := true }, kinds := [], alts := [], laidByText := true, laidKinds := [.handle], laidTests := true, laidLooks := .later }
def StoreFailsUptoCardSaid : Prop := Claim7.holds Tryd.pinned (.plain (OpenSpec.upto storeFailsSpec)) storeFailsUptoCard

/-- THE SECOND FORM's CARD OF 'wheelhouselaw11.StorePlays'. -/
def storePlaysUptoCard : Claim7 := { stood := { row := storePlaysUptoRow, standIns := [], harness := (true, "764e27271ef02a1d623e9f514234d8d0ae0b7b8f8d82478a80e912d7b60cc906"), looks := true }, kinds := [], alts := [], laidByText := true, laidKinds := [.handle], laidTests := true, laidLooks := .later }
def StorePlaysUptoCardSaid : Prop := Claim7.holds Tryd.pinned (.plain (OpenSpec.upto storePlaysSpec)) storePlaysUptoCard

/-- THE SECOND FORM's CARD OF 'wheelhouselaw11.StoreSure'. -/
def storeSureUptoCard : Claim7 := { stood := { row := storeSureUptoRow, standIns := [], harness := (true, "764e27271ef02a1d623e9f514234d8d0ae0b7b8f8d82478a80e912d7b60cc906"), looks := true }, kinds := [], alts := [], laidByText := true, laidKinds := [.handle], laidTests := true, laidLooks := .later }
def StoreSureUptoCardSaid : Prop := Claim7.holds Tryd.pinned (.plain (OpenSpec.upto storeSureSpec)) storeSureUptoCard

/-- THE SECOND FORM's CARD OF 'wheelhouselaw11.StoreNone'. -/
def storeNoneUptoCard : Claim7 := { stood := { row := storeNoneUptoRow, standIns := [], harness := (true, "764e27271ef02a1d623e9f514234d8d0ae0b7b8f8d82478a80e912d7b60cc906"), looks := true }, kinds := [], alts := [], laidByText := true, laidKinds := [.handle], laidTests := true, laidLooks := .later }
def StoreNoneUptoCardSaid : Prop := Claim7.holds Tryd.pinned (.plain (OpenSpec.upto storeNoneSpec)) storeNoneUptoCard
end Rows
end Go.Proofs.YtgpfmkkkpdpdfaaDoor
