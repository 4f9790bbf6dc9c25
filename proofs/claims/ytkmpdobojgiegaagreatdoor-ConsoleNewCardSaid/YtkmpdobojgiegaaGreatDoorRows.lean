/-
  NARROWER THAN 'FOR EVERY INPUT', by the rows' own cells (each row's printed sentence says how): ConsoleNew: laid · ConsoleAgain: laid · ConsoleHand: laid · ConsolePlays: laid.
  DERIVED. THE GIVEN ROWS OF THIS SEAT. 4 by the template 'for every input the law returns true; each argument reads behind the call as it read before'; 0 by the template 'total and deterministic' (their statements: YtkmpdobojgiegaaGreatDoorTotals.lean).
  GIVEN WITH THE SEED: the statements are not yours to turn. If you find one false, say at which input.
  Laid BY PROGRAM, IN A SANDBOX (cutbox-rows.mjs): the forced cells as the released guide's own fill.sh prints them over the translation 51e07969955aedc5… (all of the seat's roots in one cut). By AI agents, Wed Nov 11 2026. No macro, syntax, notation, axiom, sorry.
-/
import Derived.Test.YtkmpdobojgiegaaGreatDoorChecked
import GoSem.Claim
import GoSem.ClaimJoined
import GoSem.ClaimMapViews
import Derived.JoinedTies
import Derived.KernelRfl
namespace Go.Proofs.YtkmpdobojgiegaaGreatDoor
/- THE CELL 'sum', in the pinned program and in every row, IS THE sha256 OF THE DUMP (.gsa) THAT YtkmpdobojgiegaaGreatDoorProg.lean LOADS. Nothing in Lean hashes anything: it is a label: what it is worth is what the hold of that sum in a sandbox is worth. -/
noncomputable def Tryz.pinned : Pinned := { name := "ytkmpdobojgiegaagreatdoor", sum := "51e07969955aedc55185438465b22d235afbf8a6b1e343c9f831746ca7a2cd96", checked := Tryz.checked }
namespace Rows
def none {H : Type} : Left H := { results := [], args := [] }

/- WHAT THE LISTED PACKAGE-LEVEL VARIABLES READ AS WHEN THE CALL BEGINS. Each datum BY PROGRAM (the guide's laid-datum.mjs) off the statement by which the dump's own 'gosem.cut.vars' lays the variable. In a bare row this is a premise. The card (YtkmpdobojgiegaaGreatDoorCards.lean) ties it to the program's text. -/
def laid_errors_errorType {H : Type} : DataW H := .iface "internal/reflectlite.rtype" (.agg [.ptr (.lit (.string [101, 114, 114, 111, 114]))])

/-- 'wheelhouselaw33.ConsoleNew': WHATEVER THE INPUT: true; the input reads as it did. -/
def consoleNewSpec : ChangeSpec := { name := "consoleNew", fn := fun _ => fun
  | [d1, d2] => { results := [.lit (.bool true)], args := [d1, d2] }
  | _ => none }
def consoleNewRow : OpenClaim := { program := "ytkmpdobojgiegaagreatdoor", sum := "51e07969955aedc55185438465b22d235afbf8a6b1e343c9f831746ca7a2cd96", func := "wheelhouse/wheelhouselaw33.ConsoleNew", spec := "consoleNew", inPlace := ["internal/reflectlite.TypeOf", "internal/reflectlite.ValueOf", "(internal/reflectlite.Value).Type", "(internal/reflectlite.Value).IsNil", "(internal/reflectlite.Value).Elem", "(internal/reflectlite.Value).Set"], unfollowed := true, recurses := true, named := ["errors.errorType"], apart := false, laid := [("errors.errorType", laid_errors_errorType)] }
def ConsoleNewSaid : Prop := consoleNewRow.holds Tryz.pinned (OpenSpec.ofChange consoleNewSpec)

/-- ITS FALSE NEIGHBOUR: 'it returns false'. Refute it at one input. -/
def consoleNewWrong : ChangeSpec := { name := "consoleNew", fn := fun _ => fun
  | [d1, d2] => { results := [.lit (.bool false)], args := [d1, d2] }
  | _ => none }
def ConsoleNewWrongFalsely : Prop := consoleNewRow.holds Tryz.pinned (OpenSpec.ofChange consoleNewWrong)

/-- 'wheelhouselaw33.ConsoleAgain': WHATEVER THE INPUT: true; the input reads as it did. -/
def consoleAgainSpec : ChangeSpec := { name := "consoleAgain", fn := fun _ => fun
  | [d1, d2, d3] => { results := [.lit (.bool true)], args := [d1, d2, d3] }
  | _ => none }
def consoleAgainRow : OpenClaim := { program := "ytkmpdobojgiegaagreatdoor", sum := "51e07969955aedc55185438465b22d235afbf8a6b1e343c9f831746ca7a2cd96", func := "wheelhouse/wheelhouselaw33.ConsoleAgain", spec := "consoleAgain", inPlace := ["internal/reflectlite.TypeOf", "internal/reflectlite.ValueOf", "(internal/reflectlite.Value).Type", "(internal/reflectlite.Value).IsNil", "(internal/reflectlite.Value).Elem", "(internal/reflectlite.Value).Set"], unfollowed := true, recurses := true, named := ["errors.errorType"], apart := false, laid := [("errors.errorType", laid_errors_errorType)] }
def ConsoleAgainSaid : Prop := consoleAgainRow.holds Tryz.pinned (OpenSpec.ofChange consoleAgainSpec)

/-- ITS FALSE NEIGHBOUR: 'it returns false'. Refute it at one input. -/
def consoleAgainWrong : ChangeSpec := { name := "consoleAgain", fn := fun _ => fun
  | [d1, d2, d3] => { results := [.lit (.bool false)], args := [d1, d2, d3] }
  | _ => none }
def ConsoleAgainWrongFalsely : Prop := consoleAgainRow.holds Tryz.pinned (OpenSpec.ofChange consoleAgainWrong)

/-- 'wheelhouselaw33.ConsoleHand': WHATEVER THE INPUT: true; the input reads as it did. -/
def consoleHandSpec : ChangeSpec := { name := "consoleHand", fn := fun _ => fun
  | [d] => { results := [.lit (.bool true)], args := [d] }
  | _ => none }
def consoleHandRow : OpenClaim := { program := "ytkmpdobojgiegaagreatdoor", sum := "51e07969955aedc55185438465b22d235afbf8a6b1e343c9f831746ca7a2cd96", func := "wheelhouse/wheelhouselaw33.ConsoleHand", spec := "consoleHand", inPlace := ["internal/reflectlite.TypeOf", "internal/reflectlite.ValueOf", "(internal/reflectlite.Value).Type", "(internal/reflectlite.Value).IsNil", "(internal/reflectlite.Value).Elem", "(internal/reflectlite.Value).Set"], unfollowed := true, recurses := true, named := ["errors.errorType"], apart := false, laid := [("errors.errorType", laid_errors_errorType)] }
def ConsoleHandSaid : Prop := consoleHandRow.holds Tryz.pinned (OpenSpec.ofChange consoleHandSpec)

/-- ITS FALSE NEIGHBOUR: 'it returns false'. Refute it at one input. -/
def consoleHandWrong : ChangeSpec := { name := "consoleHand", fn := fun _ => fun
  | [d] => { results := [.lit (.bool false)], args := [d] }
  | _ => none }
def ConsoleHandWrongFalsely : Prop := consoleHandRow.holds Tryz.pinned (OpenSpec.ofChange consoleHandWrong)

/-- 'wheelhouselaw33.ConsolePlays': WHATEVER THE INPUT: true; the input reads as it did. -/
def consolePlaysSpec : ChangeSpec := { name := "consolePlays", fn := fun _ => fun
  | [d1, d2] => { results := [.lit (.bool true)], args := [d1, d2] }
  | _ => none }
def consolePlaysRow : OpenClaim := { program := "ytkmpdobojgiegaagreatdoor", sum := "51e07969955aedc55185438465b22d235afbf8a6b1e343c9f831746ca7a2cd96", func := "wheelhouse/wheelhouselaw33.ConsolePlays", spec := "consolePlays", inPlace := ["internal/reflectlite.TypeOf", "internal/reflectlite.ValueOf", "(internal/reflectlite.Value).Type", "(internal/reflectlite.Value).IsNil", "(internal/reflectlite.Value).Elem", "(internal/reflectlite.Value).Set"], unfollowed := true, recurses := true, named := ["errors.errorType"], apart := false, laid := [("errors.errorType", laid_errors_errorType)] }
def ConsolePlaysSaid : Prop := consolePlaysRow.holds Tryz.pinned (OpenSpec.ofChange consolePlaysSpec)

/-- ITS FALSE NEIGHBOUR: 'it returns false'. Refute it at one input. -/
def consolePlaysWrong : ChangeSpec := { name := "consolePlays", fn := fun _ => fun
  | [d1, d2] => { results := [.lit (.bool false)], args := [d1, d2] }
  | _ => none }
def ConsolePlaysWrongFalsely : Prop := consolePlaysRow.holds Tryz.pinned (OpenSpec.ofChange consolePlaysWrong)

/- THE SECOND FORM. 'bulk': how many values and letters a reading holds, each counted each time it is reached (what is shared counts as often as it is met; a slice's spare places count too). A statement '..UptoSaid' is the law's where the arguments, and the package variables that the reading takes, are together of bulk at most 1048576: NARROWER than '..Said'. Prove '..Said' where nothing that the law and all that it calls make is longer than what came in: it says more and counts as full. Else prove '..UptoSaid'. A law counts once. -/
mutual
def uptoBulk {H : Type} : DataW H → Nat
  | .lit (.string bytes) => bytes.length + 1
  | .lit _ => 1
  | .nil => 1
  | .ptr d => uptoBulk d + 1
  | .slice elems spare => uptoBulkAll elems + uptoBulkAll spare + 1
  | .agg parts => uptoBulkAll parts + 1
  | .iface _ d => uptoBulk d + 1
  | .map entries => uptoBulkEntries entries + 1
  | .held _ => 1
def uptoBulkAll {H : Type} : List (DataW H) → Nat
  | [] => 0
  | d :: r => uptoBulk d + uptoBulkAll r
def uptoBulkEntries {H : Type} : List (Lit × DataW H) → Nat
  | [] => 0
  | x :: r => uptoBulkEntry x + uptoBulkEntries r
def uptoBulkEntry {H : Type} : Lit × DataW H → Nat
  | (.string bytes, d) => bytes.length + uptoBulk d + 1
  | (_, d) => uptoBulk d + 1
 end
def uptoSmall : (H : Type) → List (DataW H) → Bool := fun _ ds => decide (uptoBulkAll ds ≤ 1048576)
def OpenSpec.upto (s : _root_.Go.ChangeSpec) : _root_.Go.OpenSpec := { _root_.Go.OpenSpec.ofChange s with cond := some uptoSmall }

/-- 'wheelhouselaw33.ConsoleNew', WHERE WHAT IT READS IS OF BULK AT MOST 1048576: true; the input reads as it did. -/
def consoleNewUptoRow : OpenClaim := { program := "ytkmpdobojgiegaagreatdoor", sum := "51e07969955aedc55185438465b22d235afbf8a6b1e343c9f831746ca7a2cd96", func := "wheelhouse/wheelhouselaw33.ConsoleNew", spec := "consoleNew", inPlace := ["internal/reflectlite.TypeOf", "internal/reflectlite.ValueOf", "(internal/reflectlite.Value).Type", "(internal/reflectlite.Value).IsNil", "(internal/reflectlite.Value).Elem", "(internal/reflectlite.Value).Set"], unfollowed := true, recurses := true, named := ["errors.errorType"], apart := false, laid := [("errors.errorType", laid_errors_errorType)], narrowed := true }
def ConsoleNewUptoSaid : Prop := consoleNewUptoRow.holds Tryz.pinned (OpenSpec.upto consoleNewSpec)

/-- 'wheelhouselaw33.ConsoleAgain', WHERE WHAT IT READS IS OF BULK AT MOST 1048576: true; the input reads as it did. -/
def consoleAgainUptoRow : OpenClaim := { program := "ytkmpdobojgiegaagreatdoor", sum := "51e07969955aedc55185438465b22d235afbf8a6b1e343c9f831746ca7a2cd96", func := "wheelhouse/wheelhouselaw33.ConsoleAgain", spec := "consoleAgain", inPlace := ["internal/reflectlite.TypeOf", "internal/reflectlite.ValueOf", "(internal/reflectlite.Value).Type", "(internal/reflectlite.Value).IsNil", "(internal/reflectlite.Value).Elem", "(internal/reflectlite.Value).Set"], unfollowed := true, recurses := true, named := ["errors.errorType"], apart := false, laid := [("errors.errorType", laid_errors_errorType)], narrowed := true }
def ConsoleAgainUptoSaid : Prop := consoleAgainUptoRow.holds Tryz.pinned (OpenSpec.upto consoleAgainSpec)

/-- 'wheelhouselaw33.ConsoleHand', WHERE WHAT IT READS IS OF BULK AT MOST 1048576: true; the input reads as it did. -/
def consoleHandUptoRow : OpenClaim := { program := "ytkmpdobojgiegaagreatdoor", sum := "51e07969955aedc55185438465b22d235afbf8a6b1e343c9f831746ca7a2cd96", func := "wheelhouse/wheelhouselaw33.ConsoleHand", spec := "consoleHand", inPlace := ["internal/reflectlite.TypeOf", "internal/reflectlite.ValueOf", "(internal/reflectlite.Value).Type", "(internal/reflectlite.Value).IsNil", "(internal/reflectlite.Value).Elem", "(internal/reflectlite.Value).Set"], unfollowed := true, recurses := true, named := ["errors.errorType"], apart := false, laid := [("errors.errorType", laid_errors_errorType)], narrowed := true }
def ConsoleHandUptoSaid : Prop := consoleHandUptoRow.holds Tryz.pinned (OpenSpec.upto consoleHandSpec)

/-- 'wheelhouselaw33.ConsolePlays', WHERE WHAT IT READS IS OF BULK AT MOST 1048576: true; the input reads as it did. -/
def consolePlaysUptoRow : OpenClaim := { program := "ytkmpdobojgiegaagreatdoor", sum := "51e07969955aedc55185438465b22d235afbf8a6b1e343c9f831746ca7a2cd96", func := "wheelhouse/wheelhouselaw33.ConsolePlays", spec := "consolePlays", inPlace := ["internal/reflectlite.TypeOf", "internal/reflectlite.ValueOf", "(internal/reflectlite.Value).Type", "(internal/reflectlite.Value).IsNil", "(internal/reflectlite.Value).Elem", "(internal/reflectlite.Value).Set"], unfollowed := true, recurses := true, named := ["errors.errorType"], apart := false, laid := [("errors.errorType", laid_errors_errorType)], narrowed := true }
def ConsolePlaysUptoSaid : Prop := consolePlaysUptoRow.holds Tryz.pinned (OpenSpec.upto consolePlaysSpec)

end Rows
end Go.Proofs.YtkmpdobojgiegaaGreatDoor
