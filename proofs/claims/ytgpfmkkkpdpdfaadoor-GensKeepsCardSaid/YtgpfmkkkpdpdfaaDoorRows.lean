/-
  NARROWER THAN 'FOR EVERY INPUT', by the rows' own cells (each row's printed sentence says how): GensNames: laid · GensKeeps: laid · BoardTables: laid · BoardWords: laid · StoreFails: laid · StorePlays: laid · StoreSure: laid · StoreNone: laid.
  DERIVED. THE GIVEN ROWS OF THIS SEAT. 8 by the template 'for every input the law returns true; each argument reads behind the call as it read before'; 0 by the template 'total and deterministic' (their statements: YtgpfmkkkpdpdfaaDoorTotals.lean).
  GIVEN WITH THE SEED: the statements are not yours to turn. If you find one false, say at which input.
  Laid BY PROGRAM, IN A SANDBOX (cutbox-rows.mjs): the forced cells as the released guide's own fill.sh prints them over the translation b994f2bd7f0b6aac… (all of the seat's roots in one cut). By AI agents, Wed Nov 11 2026. No macro, syntax, notation, axiom, sorry.
-/
import Derived.Test.YtgpfmkkkpdpdfaaDoorChecked
import GoSem.PinnedTables
import GoSem.Claim
import GoSem.ClaimJoined
import GoSem.ClaimMapViews
import Derived.JoinedTies
import Derived.KernelRfl
namespace Go.Proofs.YtgpfmkkkpdpdfaaDoor
/- THE CELL 'sum', in the pinned program and in every row, IS THE sha256 OF THE DUMP (.gsa) THAT YtgpfmkkkpdpdfaaDoorProg.lean LOADS. Nothing in Lean hashes anything: it is a label: what it is worth is what the hold of that sum in a sandbox is worth. -/
noncomputable def Tryd.pinned : Pinned := { name := "ytgpfmkkkpdpdfaadoor", sum := "b994f2bd7f0b6aacda5740f64623e048c66bc40491c1f9c6d0d0b12c9f545410", checked := Tryd.checked }
namespace Rows
def none {H : Type} : Left H := { results := [], args := [] }

/- WHAT THE LISTED PACKAGE-LEVEL VARIABLES READ AS WHEN THE CALL BEGINS. Each datum BY PROGRAM (the guide's laid-datum.mjs) off the statement by which the dump's own 'gosem.cut.vars' lays the variable. In a bare row this is a premise. The card (YtgpfmkkkpdpdfaaDoorCards.lean) ties it to the program's text. -/
def laid_errors_errorType {H : Type} : DataW H := .iface "internal/reflectlite.rtype" (.agg [.ptr (.lit (.string [101, 114, 114, 111, 114]))])
def laid_unicode_utf8_acceptRanges {H : Type} : DataW H := .agg [.agg [.lit (.int .u8 128), .lit (.int .u8 191)], .agg [.lit (.int .u8 160), .lit (.int .u8 191)], .agg [.lit (.int .u8 128), .lit (.int .u8 159)], .agg [.lit (.int .u8 144), .lit (.int .u8 191)], .agg [.lit (.int .u8 128), .lit (.int .u8 143)], .agg [.lit (.int .u8 0), .lit (.int .u8 0)], .agg [.lit (.int .u8 0), .lit (.int .u8 0)], .agg [.lit (.int .u8 0), .lit (.int .u8 0)], .agg [.lit (.int .u8 0), .lit (.int .u8 0)], .agg [.lit (.int .u8 0), .lit (.int .u8 0)], .agg [.lit (.int .u8 0), .lit (.int .u8 0)], .agg [.lit (.int .u8 0), .lit (.int .u8 0)], .agg [.lit (.int .u8 0), .lit (.int .u8 0)], .agg [.lit (.int .u8 0), .lit (.int .u8 0)], .agg [.lit (.int .u8 0), .lit (.int .u8 0)], .agg [.lit (.int .u8 0), .lit (.int .u8 0)]]
/-- One of Go's own tables, pinned by name: the form's constant. -/
def laid_unicode_utf8_first : DataW Unit := Go.Pinned.utf8First

/-- 'wheelhouselaw21.GensNames': WHATEVER THE INPUT: true; the input reads as it did. -/
def gensNamesSpec : ChangeSpec := { name := "gensNames", fn := fun _ => fun
  | [d1, d2, d3] => { results := [.lit (.bool true)], args := [d1, d2, d3] }
  | _ => none }
def gensNamesRow : OpenClaim := { program := "ytgpfmkkkpdpdfaadoor", sum := "b994f2bd7f0b6aacda5740f64623e048c66bc40491c1f9c6d0d0b12c9f545410", func := "wheelhouse/wheelhouselaw21.GensNames", spec := "gensNames", inPlace := ["internal/reflectlite.TypeOf", "internal/reflectlite.ValueOf", "(internal/reflectlite.Value).Type", "(internal/reflectlite.Value).IsNil", "(internal/reflectlite.Value).Elem", "(internal/reflectlite.Value).Set"], unfollowed := true, recurses := true, named := ["errors.errorType"], apart := false, laid := [("errors.errorType", laid_errors_errorType)] }
def GensNamesSaid : Prop := gensNamesRow.holds Tryd.pinned (OpenSpec.ofChange gensNamesSpec)

/-- ITS FALSE NEIGHBOUR: 'it returns false'. Refute it at one input. -/
def gensNamesWrong : ChangeSpec := { name := "gensNames", fn := fun _ => fun
  | [d1, d2, d3] => { results := [.lit (.bool false)], args := [d1, d2, d3] }
  | _ => none }
def GensNamesWrongFalsely : Prop := gensNamesRow.holds Tryd.pinned (OpenSpec.ofChange gensNamesWrong)

/-- 'wheelhouselaw21.GensKeeps': WHATEVER THE INPUT: true; the input reads as it did. -/
def gensKeepsSpec : ChangeSpec := { name := "gensKeeps", fn := fun _ => fun
  | [d1, d2, d3] => { results := [.lit (.bool true)], args := [d1, d2, d3] }
  | _ => none }
def gensKeepsRow : OpenClaim := { program := "ytgpfmkkkpdpdfaadoor", sum := "b994f2bd7f0b6aacda5740f64623e048c66bc40491c1f9c6d0d0b12c9f545410", func := "wheelhouse/wheelhouselaw21.GensKeeps", spec := "gensKeeps", inPlace := ["internal/reflectlite.TypeOf", "internal/reflectlite.ValueOf", "(internal/reflectlite.Value).Type", "(internal/reflectlite.Value).IsNil", "(internal/reflectlite.Value).Elem", "(internal/reflectlite.Value).Set"], unfollowed := true, recurses := true, named := ["errors.errorType"], apart := false, laid := [("errors.errorType", laid_errors_errorType)] }
def GensKeepsSaid : Prop := gensKeepsRow.holds Tryd.pinned (OpenSpec.ofChange gensKeepsSpec)

/-- ITS FALSE NEIGHBOUR: 'it returns false'. Refute it at one input. -/
def gensKeepsWrong : ChangeSpec := { name := "gensKeeps", fn := fun _ => fun
  | [d1, d2, d3] => { results := [.lit (.bool false)], args := [d1, d2, d3] }
  | _ => none }
def GensKeepsWrongFalsely : Prop := gensKeepsRow.holds Tryd.pinned (OpenSpec.ofChange gensKeepsWrong)

/-- 'wheelhouselaw34.BoardTables': WHATEVER THE INPUT: true; the input reads as it did. -/
def boardTablesSpec : ChangeSpec := { name := "boardTables", fn := fun _ => fun
  | [d] => { results := [.lit (.bool true)], args := [d] }
  | _ => none }
def boardTablesRow : OpenClaim := { program := "ytgpfmkkkpdpdfaadoor", sum := "b994f2bd7f0b6aacda5740f64623e048c66bc40491c1f9c6d0d0b12c9f545410", func := "wheelhouse/wheelhouselaw34.BoardTables", spec := "boardTables", inPlace := ["internal/abi.NoEscape", "internal/bytealg.MakeNoZero", "internal/bytealg.IndexByteString", "internal/bytealg.IndexString"], named := ["unicode/utf8.first", "unicode/utf8.acceptRanges", "internal/bytealg.MaxLen"], apart := false, laid := [("unicode/utf8.acceptRanges", laid_unicode_utf8_acceptRanges), ("unicode/utf8.first", laid_unicode_utf8_first)] }
def BoardTablesSaid : Prop := boardTablesRow.holds Tryd.pinned (OpenSpec.ofChange boardTablesSpec)

/-- ITS FALSE NEIGHBOUR: 'it returns false'. Refute it at one input. -/
def boardTablesWrong : ChangeSpec := { name := "boardTables", fn := fun _ => fun
  | [d] => { results := [.lit (.bool false)], args := [d] }
  | _ => none }
def BoardTablesWrongFalsely : Prop := boardTablesRow.holds Tryd.pinned (OpenSpec.ofChange boardTablesWrong)

/-- 'wheelhouselaw34.BoardWords': WHATEVER THE INPUT: true; the input reads as it did. -/
def boardWordsSpec : ChangeSpec := { name := "boardWords", fn := fun _ => fun
  | [d1, d2, d3] => { results := [.lit (.bool true)], args := [d1, d2, d3] }
  | _ => none }
def boardWordsRow : OpenClaim := { program := "ytgpfmkkkpdpdfaadoor", sum := "b994f2bd7f0b6aacda5740f64623e048c66bc40491c1f9c6d0d0b12c9f545410", func := "wheelhouse/wheelhouselaw34.BoardWords", spec := "boardWords", inPlace := ["internal/abi.NoEscape", "internal/bytealg.MakeNoZero", "internal/bytealg.IndexByteString", "internal/bytealg.IndexString"], recurses := true, named := ["unicode/utf8.first", "unicode/utf8.acceptRanges", "internal/bytealg.MaxLen"], apart := false, laid := [("unicode/utf8.acceptRanges", laid_unicode_utf8_acceptRanges), ("unicode/utf8.first", laid_unicode_utf8_first)] }
def BoardWordsSaid : Prop := boardWordsRow.holds Tryd.pinned (OpenSpec.ofChange boardWordsSpec)

/-- ITS FALSE NEIGHBOUR: 'it returns false'. Refute it at one input. -/
def boardWordsWrong : ChangeSpec := { name := "boardWords", fn := fun _ => fun
  | [d1, d2, d3] => { results := [.lit (.bool false)], args := [d1, d2, d3] }
  | _ => none }
def BoardWordsWrongFalsely : Prop := boardWordsRow.holds Tryd.pinned (OpenSpec.ofChange boardWordsWrong)

/-- 'wheelhouselaw11.StoreFails': WHATEVER THE INPUT: true; the input reads as it did. -/
def storeFailsSpec : ChangeSpec := { name := "storeFails", fn := fun _ => fun
  | [d1, d2] => { results := [.lit (.bool true)], args := [d1, d2] }
  | _ => none }
def storeFailsRow : OpenClaim := { program := "ytgpfmkkkpdpdfaadoor", sum := "b994f2bd7f0b6aacda5740f64623e048c66bc40491c1f9c6d0d0b12c9f545410", func := "wheelhouse/wheelhouselaw11.StoreFails", spec := "storeFails", inPlace := ["internal/reflectlite.ValueOf", "(internal/reflectlite.Value).Type", "(internal/reflectlite.Value).IsNil", "internal/reflectlite.TypeOf", "(internal/reflectlite.Value).Elem", "(internal/reflectlite.Value).Set"], unfollowed := true, recurses := true, named := ["errors.errorType"], apart := false, laid := [("errors.errorType", laid_errors_errorType)] }
def StoreFailsSaid : Prop := storeFailsRow.holds Tryd.pinned (OpenSpec.ofChange storeFailsSpec)

/-- ITS FALSE NEIGHBOUR: 'it returns false'. Refute it at one input. -/
def storeFailsWrong : ChangeSpec := { name := "storeFails", fn := fun _ => fun
  | [d1, d2] => { results := [.lit (.bool false)], args := [d1, d2] }
  | _ => none }
def StoreFailsWrongFalsely : Prop := storeFailsRow.holds Tryd.pinned (OpenSpec.ofChange storeFailsWrong)

/-- 'wheelhouselaw11.StorePlays': WHATEVER THE INPUT: true; the input reads as it did. -/
def storePlaysSpec : ChangeSpec := { name := "storePlays", fn := fun _ => fun
  | [d1, d2] => { results := [.lit (.bool true)], args := [d1, d2] }
  | _ => none }
def storePlaysRow : OpenClaim := { program := "ytgpfmkkkpdpdfaadoor", sum := "b994f2bd7f0b6aacda5740f64623e048c66bc40491c1f9c6d0d0b12c9f545410", func := "wheelhouse/wheelhouselaw11.StorePlays", spec := "storePlays", inPlace := ["internal/reflectlite.ValueOf", "(internal/reflectlite.Value).Type", "(internal/reflectlite.Value).IsNil", "internal/reflectlite.TypeOf", "(internal/reflectlite.Value).Elem", "(internal/reflectlite.Value).Set"], unfollowed := true, recurses := true, named := ["errors.errorType"], apart := false, laid := [("errors.errorType", laid_errors_errorType)] }
def StorePlaysSaid : Prop := storePlaysRow.holds Tryd.pinned (OpenSpec.ofChange storePlaysSpec)

/-- ITS FALSE NEIGHBOUR: 'it returns false'. Refute it at one input. -/
def storePlaysWrong : ChangeSpec := { name := "storePlays", fn := fun _ => fun
  | [d1, d2] => { results := [.lit (.bool false)], args := [d1, d2] }
  | _ => none }
def StorePlaysWrongFalsely : Prop := storePlaysRow.holds Tryd.pinned (OpenSpec.ofChange storePlaysWrong)

/-- 'wheelhouselaw11.StoreSure': WHATEVER THE INPUT: true; the input reads as it did. -/
def storeSureSpec : ChangeSpec := { name := "storeSure", fn := fun _ => fun
  | [d1, d2] => { results := [.lit (.bool true)], args := [d1, d2] }
  | _ => none }
def storeSureRow : OpenClaim := { program := "ytgpfmkkkpdpdfaadoor", sum := "b994f2bd7f0b6aacda5740f64623e048c66bc40491c1f9c6d0d0b12c9f545410", func := "wheelhouse/wheelhouselaw11.StoreSure", spec := "storeSure", inPlace := ["internal/reflectlite.ValueOf", "(internal/reflectlite.Value).Type", "(internal/reflectlite.Value).IsNil", "internal/reflectlite.TypeOf", "(internal/reflectlite.Value).Elem", "(internal/reflectlite.Value).Set"], unfollowed := true, recurses := true, named := ["errors.errorType"], apart := false, laid := [("errors.errorType", laid_errors_errorType)] }
def StoreSureSaid : Prop := storeSureRow.holds Tryd.pinned (OpenSpec.ofChange storeSureSpec)

/-- ITS FALSE NEIGHBOUR: 'it returns false'. Refute it at one input. -/
def storeSureWrong : ChangeSpec := { name := "storeSure", fn := fun _ => fun
  | [d1, d2] => { results := [.lit (.bool false)], args := [d1, d2] }
  | _ => none }
def StoreSureWrongFalsely : Prop := storeSureRow.holds Tryd.pinned (OpenSpec.ofChange storeSureWrong)

/-- 'wheelhouselaw11.StoreNone': WHATEVER THE INPUT: true; the input reads as it did. -/
def storeNoneSpec : ChangeSpec := { name := "storeNone", fn := fun _ => fun
  | [d1, d2, d3] => { results := [.lit (.bool true)], args := [d1, d2, d3] }
  | _ => none }
def storeNoneRow : OpenClaim := { program := "ytgpfmkkkpdpdfaadoor", sum := "b994f2bd7f0b6aacda5740f64623e048c66bc40491c1f9c6d0d0b12c9f545410", func := "wheelhouse/wheelhouselaw11.StoreNone", spec := "storeNone", inPlace := ["internal/reflectlite.ValueOf", "(internal/reflectlite.Value).Type", "(internal/reflectlite.Value).IsNil", "internal/reflectlite.TypeOf", "(internal/reflectlite.Value).Elem", "(internal/reflectlite.Value).Set"], unfollowed := true, recurses := true, named := ["errors.errorType"], apart := false, laid := [("errors.errorType", laid_errors_errorType)] }
def StoreNoneSaid : Prop := storeNoneRow.holds Tryd.pinned (OpenSpec.ofChange storeNoneSpec)

/-- ITS FALSE NEIGHBOUR: 'it returns false'. Refute it at one input. -/
def storeNoneWrong : ChangeSpec := { name := "storeNone", fn := fun _ => fun
  | [d1, d2, d3] => { results := [.lit (.bool false)], args := [d1, d2, d3] }
  | _ => none }
def StoreNoneWrongFalsely : Prop := storeNoneRow.holds Tryd.pinned (OpenSpec.ofChange storeNoneWrong)

/- THE SECOND FORM. 'bulk': how many values and letters a reading holds, each counted each time it is reached (what is shared counts as often as it is met; a slice's spare places count too). A statement '..UptoSaid' is the law's where the arguments, and the package variables that the reading takes, are together of bulk at most 1048576: NARROWER than '..Said'. Prove '..Said' where nothing that the law and all that it calls make is longer than what came in: it says more and counts as full. Else prove '..UptoSaid'. A law counts once. -/
mutual
def uptoBulk {H : Type} : DataW H → Nat
  | .lit (.string bytes) => bytes.length + 1
  | .lit _ => 1
  | .nil => 1
  | .ptr d => uptoBulk d + 1
  | .slice elems spare => uptoBulkAll elems + uptoBulkAll spare + 1
  | .agg parts => uptoBulkAll parts + 1
  | .iface _ d => uptoBulk d + 1
  | .map entries => uptoBulkEntries entries + 1
  | .held _ => 1
def uptoBulkAll {H : Type} : List (DataW H) → Nat
  | [] => 0
  | d :: r => uptoBulk d + uptoBulkAll r
def uptoBulkEntries {H : Type} : List (Lit × DataW H) → Nat
  | [] => 0
  | x :: r => uptoBulkEntry x + uptoBulkEntries r
def uptoBulkEntry {H : Type} : Lit × DataW H → Nat
  | (.string bytes, d) => bytes.length + uptoBulk d + 1
  | (_, d) => uptoBulk d + 1
 end
def uptoSmall : (H : Type) → List (DataW H) → Bool := fun _ ds => decide (uptoBulkAll ds ≤ 1048576)
def OpenSpec.upto (s : _root_.Go.ChangeSpec) : _root_.Go.OpenSpec := { _root_.Go.OpenSpec.ofChange s with cond := some uptoSmall }

/-- 'wheelhouselaw21.GensNames', WHERE WHAT IT READS IS OF BULK AT MOST 1048576: true; the input reads as it did. -/
def gensNamesUptoRow : OpenClaim := { program := "ytgpfmkkkpdpdfaadoor", sum := "b994f2bd7f0b6aacda5740f64623e048c66bc40491c1f9c6d0d0b12c9f545410", func := "wheelhouse/wheelhouselaw21.GensNames", spec := "gensNames", inPlace := ["internal/reflectlite.TypeOf", "internal/reflectlite.ValueOf", "(internal/reflectlite.Value).Type", "(internal/reflectlite.Value).IsNil", "(internal/reflectlite.Value).Elem", "(internal/reflectlite.Value).Set"], unfollowed := true, recurses := true, named := ["errors.errorType"], apart := false, laid := [("errors.errorType", laid_errors_errorType)], narrowed := true }
def GensNamesUptoSaid : Prop := gensNamesUptoRow.holds Tryd.pinned (OpenSpec.upto gensNamesSpec)

/-- 'wheelhouselaw21.GensKeeps', WHERE WHAT IT READS IS OF BULK AT MOST 1048576: true; the input reads as it did. -/
def gensKeepsUptoRow : OpenClaim := { program := "ytgpfmkkkpdpdfaadoor", sum := "b994f2bd7f0b6aacda5740f64623e048c66bc40491c1f9c6d0d0b12c9f545410", func := "wheelhouse/wheelhouselaw21.GensKeeps", spec := "gensKeeps", inPlace := ["internal/reflectlite.TypeOf", "internal/reflectlite.ValueOf", "(internal/reflectlite.Value).Type", "(internal/reflectlite.Value).IsNil", "(internal/reflectlite.Value).Elem", "(internal/reflectlite.Value).Set"], unfollowed := true, recurses := true, named := ["errors.errorType"], apart := false, laid := [("errors.errorType", laid_errors_errorType)], narrowed := true }
def GensKeepsUptoSaid : Prop := gensKeepsUptoRow.holds Tryd.pinned (OpenSpec.upto gensKeepsSpec)

/-- 'wheelhouselaw34.BoardTables', WHERE WHAT IT READS IS OF BULK AT MOST 1048576: true; the input reads as it did. -/
def boardTablesUptoRow : OpenClaim := { program := "ytgpfmkkkpdpdfaadoor", sum := "b994f2bd7f0b6aacda5740f64623e048c66bc40491c1f9c6d0d0b12c9f545410", func := "wheelhouse/wheelhouselaw34.BoardTables", spec := "boardTables", inPlace := ["internal/abi.NoEscape", "internal/bytealg.MakeNoZero", "internal/bytealg.IndexByteString", "internal/bytealg.IndexString"], named := ["unicode/utf8.first", "unicode/utf8.acceptRanges", "internal/bytealg.MaxLen"], apart := false, laid := [("unicode/utf8.acceptRanges", laid_unicode_utf8_acceptRanges), ("unicode/utf8.first", laid_unicode_utf8_first)], narrowed := true }
def BoardTablesUptoSaid : Prop := boardTablesUptoRow.holds Tryd.pinned (OpenSpec.upto boardTablesSpec)

/-- 'wheelhouselaw34.BoardWords', WHERE WHAT IT READS IS OF BULK AT MOST 1048576: true; the input reads as it did. -/
def boardWordsUptoRow : OpenClaim := { program := "ytgpfmkkkpdpdfaadoor", sum := "b994f2bd7f0b6aacda5740f64623e048c66bc40491c1f9c6d0d0b12c9f545410", func := "wheelhouse/wheelhouselaw34.BoardWords", spec := "boardWords", inPlace := ["internal/abi.NoEscape", "internal/bytealg.MakeNoZero", "internal/bytealg.IndexByteString", "internal/bytealg.IndexString"], recurses := true, named := ["unicode/utf8.first", "unicode/utf8.acceptRanges", "internal/bytealg.MaxLen"], apart := false, laid := [("unicode/utf8.acceptRanges", laid_unicode_utf8_acceptRanges), ("unicode/utf8.first", laid_unicode_utf8_first)], narrowed := true }
def BoardWordsUptoSaid : Prop := boardWordsUptoRow.holds Tryd.pinned (OpenSpec.upto boardWordsSpec)

/-- 'wheelhouselaw11.StoreFails', WHERE WHAT IT READS IS OF BULK AT MOST 1048576: true; the input reads as it did. -/
def storeFailsUptoRow : OpenClaim := { program := "ytgpfmkkkpdpdfaadoor", sum := "b994f2bd7f0b6aacda5740f64623e048c66bc40491c1f9c6d0d0b12c9f545410", func := "wheelhouse/wheelhouselaw11.StoreFails", spec := "storeFails", inPlace := ["internal/reflectlite.ValueOf", "(internal/reflectlite.Value).Type", "(internal/reflectlite.Value).IsNil", "internal/reflectlite.TypeOf", "(internal/reflectlite.Value).Elem", "(internal/reflectlite.Value).Set"], unfollowed := true, recurses := true, named := ["errors.errorType"], apart := false, laid := [("errors.errorType", laid_errors_errorType)], narrowed := true }
def StoreFailsUptoSaid : Prop := storeFailsUptoRow.holds Tryd.pinned (OpenSpec.upto storeFailsSpec)

/-- 'wheelhouselaw11.StorePlays', WHERE WHAT IT READS IS OF BULK AT MOST 1048576: true; the input reads as it did. -/
def storePlaysUptoRow : OpenClaim := { program := "ytgpfmkkkpdpdfaadoor", sum := "b994f2bd7f0b6aacda5740f64623e048c66bc40491c1f9c6d0d0b12c9f545410", func := "wheelhouse/wheelhouselaw11.StorePlays", spec := "storePlays", inPlace := ["internal/reflectlite.ValueOf", "(internal/reflectlite.Value).Type", "(internal/reflectlite.Value).IsNil", "internal/reflectlite.TypeOf", "(internal/reflectlite.Value).Elem", "(internal/reflectlite.Value).Set"], unfollowed := true, recurses := true, named := ["errors.errorType"], apart := false, laid := [("errors.errorType", laid_errors_errorType)], narrowed := true }
def StorePlaysUptoSaid : Prop := storePlaysUptoRow.holds Tryd.pinned (OpenSpec.upto storePlaysSpec)

/-- 'wheelhouselaw11.StoreSure', WHERE WHAT IT READS IS OF BULK AT MOST 1048576: true; the input reads as it did. -/
def storeSureUptoRow : OpenClaim := { program := "ytgpfmkkkpdpdfaadoor", sum := "b994f2bd7f0b6aacda5740f64623e048c66bc40491c1f9c6d0d0b12c9f545410", func := "wheelhouse/wheelhouselaw11.StoreSure", spec := "storeSure", inPlace := ["internal/reflectlite.ValueOf", "(internal/reflectlite.Value).Type", "(internal/reflectlite.Value).IsNil", "internal/reflectlite.TypeOf", "(internal/reflectlite.Value).Elem", "(internal/reflectlite.Value).Set"], unfollowed := true, recurses := true, named := ["errors.errorType"], apart := false, laid := [("errors.errorType", laid_errors_errorType)], narrowed := true }
def StoreSureUptoSaid : Prop := storeSureUptoRow.holds Tryd.pinned (OpenSpec.upto storeSureSpec)

/-- 'wheelhouselaw11.StoreNone', WHERE WHAT IT READS IS OF BULK AT MOST 1048576: true; the input reads as it did. -/
def storeNoneUptoRow : OpenClaim := { program := "ytgpfmkkkpdpdfaadoor", sum := "b994f2bd7f0b6aacda5740f64623e048c66bc40491c1f9c6d0d0b12c9f545410", func := "wheelhouse/wheelhouselaw11.StoreNone", spec := "storeNone", inPlace := ["internal/reflectlite.ValueOf", "(internal/reflectlite.Value).Type", "(internal/reflectlite.Value).IsNil", "internal/reflectlite.TypeOf", "(internal/reflectlite.Value).Elem", "(internal/reflectlite.Value).Set"], unfollowed := true, recurses := true, named := ["errors.errorType"], apart := false, laid := [("errors.errorType", laid_errors_errorType)], narrowed := true }
def StoreNoneUptoSaid : Prop := storeNoneUptoRow.holds Tryd.pinned (OpenSpec.upto storeNoneSpec)

end Rows
end Go.Proofs.YtgpfmkkkpdpdfaaDoor
