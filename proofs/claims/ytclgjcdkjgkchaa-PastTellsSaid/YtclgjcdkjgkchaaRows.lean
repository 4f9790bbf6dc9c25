/-
  No cell of these rows narrows 'for every input' (looked for: loops, veiled, ifaces, maps, wideKeys, modest, calm, conditions, laid).
  DERIVED. THE GIVEN ROWS OF THIS SEAT. 6 by the template 'for every input the law returns true; each argument reads behind the call as it read before'; 0 by the template 'total and deterministic' (their statements: YtclgjcdkjgkchaaTotals.lean).
  GIVEN WITH THE SEED: the statements are not yours to turn. If you find one false, say at which input.
  Laid BY PROGRAM, IN A SANDBOX (cutbox-rows.mjs): the forced cells as the released guide's own fill.sh prints them over the translation 8b01b8a31b481358… (all of the seat's roots in one cut). By AI agents, Wed Nov 11 2026. No macro, syntax, notation, axiom, sorry.
-/
import Derived.Test.YtclgjcdkjgkchaaChecked
import GoSem.Claim
import GoSem.ClaimJoined
import GoSem.ClaimMapViews
import Derived.JoinedTies
import Derived.KernelRfl
namespace Go.Proofs.Ytclgjcdkjgkchaa
/- THE CELL 'sum', in the pinned program and in every row, IS THE sha256 OF THE DUMP (.gsa) THAT YtclgjcdkjgkchaaProg.lean LOADS. Nothing in Lean hashes anything: it is a label: what it is worth is what the hold of that sum in a sandbox is worth. -/
noncomputable def Try.pinned : Pinned := { name := "ytclgjcdkjgkchaa", sum := "8b01b8a31b48135828b2fc0523225f482c63c09b685b4c644e5684b7393b760c", checked := Try.checked }
namespace Rows
def none {H : Type} : Left H := { results := [], args := [] }

/-- 'wheelhouselaw04.RingPlays': WHATEVER THE INPUT: true; the input reads as it did. -/
def ringPlaysSpec : ChangeSpec := { name := "ringPlays", fn := fun _ => fun
  | [d1, d2] => { results := [.lit (.bool true)], args := [d1, d2] }
  | _ => none }
def ringPlaysRow : OpenClaim := { program := "ytclgjcdkjgkchaa", sum := "8b01b8a31b48135828b2fc0523225f482c63c09b685b4c644e5684b7393b760c", func := "wheelhouse/wheelhouselaw04.RingPlays", spec := "ringPlays", apart := false }
def RingPlaysSaid : Prop := ringPlaysRow.holds Try.pinned (OpenSpec.ofChange ringPlaysSpec)

/-- ITS FALSE NEIGHBOUR: 'it returns false'. Refute it at one input. -/
def ringPlaysWrong : ChangeSpec := { name := "ringPlays", fn := fun _ => fun
  | [d1, d2] => { results := [.lit (.bool false)], args := [d1, d2] }
  | _ => none }
def RingPlaysWrongFalsely : Prop := ringPlaysRow.holds Try.pinned (OpenSpec.ofChange ringPlaysWrong)

/-- 'wheelhouselaw04.RingKeeps': WHATEVER THE INPUT: true; the input reads as it did. -/
def ringKeepsSpec : ChangeSpec := { name := "ringKeeps", fn := fun _ => fun
  | [d1, d2] => { results := [.lit (.bool true)], args := [d1, d2] }
  | _ => none }
def ringKeepsRow : OpenClaim := { program := "ytclgjcdkjgkchaa", sum := "8b01b8a31b48135828b2fc0523225f482c63c09b685b4c644e5684b7393b760c", func := "wheelhouse/wheelhouselaw04.RingKeeps", spec := "ringKeeps", apart := false }
def RingKeepsSaid : Prop := ringKeepsRow.holds Try.pinned (OpenSpec.ofChange ringKeepsSpec)

/-- ITS FALSE NEIGHBOUR: 'it returns false'. Refute it at one input. -/
def ringKeepsWrong : ChangeSpec := { name := "ringKeeps", fn := fun _ => fun
  | [d1, d2] => { results := [.lit (.bool false)], args := [d1, d2] }
  | _ => none }
def RingKeepsWrongFalsely : Prop := ringKeepsRow.holds Try.pinned (OpenSpec.ofChange ringKeepsWrong)

/-- 'wheelhouselaw04.RingNone': WHATEVER THE INPUT: true; the input reads as it did. -/
def ringNoneSpec : ChangeSpec := { name := "ringNone", fn := fun _ => fun
  | [d1, d2] => { results := [.lit (.bool true)], args := [d1, d2] }
  | _ => none }
def ringNoneRow : OpenClaim := { program := "ytclgjcdkjgkchaa", sum := "8b01b8a31b48135828b2fc0523225f482c63c09b685b4c644e5684b7393b760c", func := "wheelhouse/wheelhouselaw04.RingNone", spec := "ringNone", apart := false }
def RingNoneSaid : Prop := ringNoneRow.holds Try.pinned (OpenSpec.ofChange ringNoneSpec)

/-- ITS FALSE NEIGHBOUR: 'it returns false'. Refute it at one input. -/
def ringNoneWrong : ChangeSpec := { name := "ringNone", fn := fun _ => fun
  | [d1, d2] => { results := [.lit (.bool false)], args := [d1, d2] }
  | _ => none }
def RingNoneWrongFalsely : Prop := ringNoneRow.holds Try.pinned (OpenSpec.ofChange ringNoneWrong)

/-- 'wheelhouselaw31.PastTells': WHATEVER THE INPUT: true; the input reads as it did. -/
def pastTellsSpec : ChangeSpec := { name := "pastTells", fn := fun _ => fun
  | [d1, d2, d3, d4, d5] => { results := [.lit (.bool true)], args := [d1, d2, d3, d4, d5] }
  | _ => none }
def pastTellsRow : OpenClaim := { program := "ytclgjcdkjgkchaa", sum := "8b01b8a31b48135828b2fc0523225f482c63c09b685b4c644e5684b7393b760c", func := "wheelhouse/wheelhouselaw31.PastTells", spec := "pastTells", apart := false }
def PastTellsSaid : Prop := pastTellsRow.holds Try.pinned (OpenSpec.ofChange pastTellsSpec)

/-- ITS FALSE NEIGHBOUR: 'it returns false'. Refute it at one input. -/
def pastTellsWrong : ChangeSpec := { name := "pastTells", fn := fun _ => fun
  | [d1, d2, d3, d4, d5] => { results := [.lit (.bool false)], args := [d1, d2, d3, d4, d5] }
  | _ => none }
def PastTellsWrongFalsely : Prop := pastTellsRow.holds Try.pinned (OpenSpec.ofChange pastTellsWrong)

/-- 'wheelhouselaw31.PastSame': WHATEVER THE INPUT: true; the input reads as it did. -/
def pastSameSpec : ChangeSpec := { name := "pastSame", fn := fun _ => fun
  | [d1, d2, d3, d4, d5] => { results := [.lit (.bool true)], args := [d1, d2, d3, d4, d5] }
  | _ => none }
def pastSameRow : OpenClaim := { program := "ytclgjcdkjgkchaa", sum := "8b01b8a31b48135828b2fc0523225f482c63c09b685b4c644e5684b7393b760c", func := "wheelhouse/wheelhouselaw31.PastSame", spec := "pastSame", apart := false }
def PastSameSaid : Prop := pastSameRow.holds Try.pinned (OpenSpec.ofChange pastSameSpec)

/-- ITS FALSE NEIGHBOUR: 'it returns false'. Refute it at one input. -/
def pastSameWrong : ChangeSpec := { name := "pastSame", fn := fun _ => fun
  | [d1, d2, d3, d4, d5] => { results := [.lit (.bool false)], args := [d1, d2, d3, d4, d5] }
  | _ => none }
def PastSameWrongFalsely : Prop := pastSameRow.holds Try.pinned (OpenSpec.ofChange pastSameWrong)

/-- 'wheelhouselaw31.PastNone': WHATEVER THE INPUT: true; the input reads as it did. -/
def pastNoneSpec : ChangeSpec := { name := "pastNone", fn := fun _ => fun
  | [d1, d2] => { results := [.lit (.bool true)], args := [d1, d2] }
  | _ => none }
def pastNoneRow : OpenClaim := { program := "ytclgjcdkjgkchaa", sum := "8b01b8a31b48135828b2fc0523225f482c63c09b685b4c644e5684b7393b760c", func := "wheelhouse/wheelhouselaw31.PastNone", spec := "pastNone", apart := false }
def PastNoneSaid : Prop := pastNoneRow.holds Try.pinned (OpenSpec.ofChange pastNoneSpec)

/-- ITS FALSE NEIGHBOUR: 'it returns false'. Refute it at one input. -/
def pastNoneWrong : ChangeSpec := { name := "pastNone", fn := fun _ => fun
  | [d1, d2] => { results := [.lit (.bool false)], args := [d1, d2] }
  | _ => none }
def PastNoneWrongFalsely : Prop := pastNoneRow.holds Try.pinned (OpenSpec.ofChange pastNoneWrong)

/- THE SECOND FORM. 'bulk': how many values and letters a reading holds, each counted each time it is reached (what is shared counts as often as it is met; a slice's spare places count too). A statement '..UptoSaid' is the law's where the arguments, and the package variables that the reading takes, are together of bulk at most 1048576: NARROWER than '..Said'. Prove '..Said' where nothing that the law and all that it calls make is longer than what came in: it says more and counts as full. Else prove '..UptoSaid'. A law counts once. -/
mutual
def uptoBulk {H : Type} : DataW H → Nat
  | .lit (.string bytes) => bytes.length + 1
  | .lit _ => 1
  | .nil => 1
  | .ptr d => uptoBulk d + 1
  | .slice elems spare => uptoBulkAll elems + uptoBulkAll spare + 1
  | .agg parts => uptoBulkAll parts + 1
  | .iface _ d => uptoBulk d + 1
  | .map entries => uptoBulkEntries entries + 1
  | .held _ => 1
def uptoBulkAll {H : Type} : List (DataW H) → Nat
  | [] => 0
  | d :: r => uptoBulk d + uptoBulkAll r
def uptoBulkEntries {H : Type} : List (Lit × DataW H) → Nat
  | [] => 0
  | x :: r => uptoBulkEntry x + uptoBulkEntries r
def uptoBulkEntry {H : Type} : Lit × DataW H → Nat
  | (.string bytes, d) => bytes.length + uptoBulk d + 1
  | (_, d) => uptoBulk d + 1
 end
def uptoSmall : (H : Type) → List (DataW H) → Bool := fun _ ds => decide (uptoBulkAll ds ≤ 1048576)
def OpenSpec.upto (s : _root_.Go.ChangeSpec) : _root_.Go.OpenSpec := { _root_.Go.OpenSpec.ofChange s with cond := some uptoSmall }

/-- 'wheelhouselaw04.RingPlays', WHERE WHAT IT READS IS OF BULK AT MOST 1048576: true; the input reads as it did. -/
def ringPlaysUptoRow : OpenClaim := { program := "ytclgjcdkjgkchaa", sum := "8b01b8a31b48135828b2fc0523225f482c63c09b685b4c644e5684b7393b760c", func := "wheelhouse/wheelhouselaw04.RingPlays", spec := "ringPlays", apart := false, narrowed := true }
def RingPlaysUptoSaid : Prop := ringPlaysUptoRow.holds Try.pinned (OpenSpec.upto ringPlaysSpec)

/-- 'wheelhouselaw04.RingKeeps', WHERE WHAT IT READS IS OF BULK AT MOST 1048576: true; the input reads as it did. -/
def ringKeepsUptoRow : OpenClaim := { program := "ytclgjcdkjgkchaa", sum := "8b01b8a31b48135828b2fc0523225f482c63c09b685b4c644e5684b7393b760c", func := "wheelhouse/wheelhouselaw04.RingKeeps", spec := "ringKeeps", apart := false, narrowed := true }
def RingKeepsUptoSaid : Prop := ringKeepsUptoRow.holds Try.pinned (OpenSpec.upto ringKeepsSpec)

/-- 'wheelhouselaw04.RingNone', WHERE WHAT IT READS IS OF BULK AT MOST 1048576: true; the input reads as it did. -/
def ringNoneUptoRow : OpenClaim := { program := "ytclgjcdkjgkchaa", sum := "8b01b8a31b48135828b2fc0523225f482c63c09b685b4c644e5684b7393b760c", func := "wheelhouse/wheelhouselaw04.RingNone", spec := "ringNone", apart := false, narrowed := true }
def RingNoneUptoSaid : Prop := ringNoneUptoRow.holds Try.pinned (OpenSpec.upto ringNoneSpec)

/-- 'wheelhouselaw31.PastTells', WHERE WHAT IT READS IS OF BULK AT MOST 1048576: true; the input reads as it did. -/
def pastTellsUptoRow : OpenClaim := { program := "ytclgjcdkjgkchaa", sum := "8b01b8a31b48135828b2fc0523225f482c63c09b685b4c644e5684b7393b760c", func := "wheelhouse/wheelhouselaw31.PastTells", spec := "pastTells", apart := false, narrowed := true }
def PastTellsUptoSaid : Prop := pastTellsUptoRow.holds Try.pinned (OpenSpec.upto pastTellsSpec)

/-- 'wheelhouselaw31.PastSame', WHERE WHAT IT READS IS OF BULK AT MOST 1048576: true; the input reads as it did. -/
def pastSameUptoRow : OpenClaim := { program := "ytclgjcdkjgkchaa", sum := "8b01b8a31b48135828b2fc0523225f482c63c09b685b4c644e5684b7393b760c", func := "wheelhouse/wheelhouselaw31.PastSame", spec := "pastSame", apart := false, narrowed := true }
def PastSameUptoSaid : Prop := pastSameUptoRow.holds Try.pinned (OpenSpec.upto pastSameSpec)

/-- 'wheelhouselaw31.PastNone', WHERE WHAT IT READS IS OF BULK AT MOST 1048576: true; the input reads as it did. -/
def pastNoneUptoRow : OpenClaim := { program := "ytclgjcdkjgkchaa", sum := "8b01b8a31b48135828b2fc0523225f482c63c09b685b4c644e5684b7393b760c", func := "wheelhouse/wheelhouselaw31.PastNone", spec := "pastNone", apart := false, narrowed := true }
def PastNoneUptoSaid : Prop := pastNoneUptoRow.holds Try.pinned (OpenSpec.upto pastNoneSpec)

end Rows
end Go.Proofs.Ytclgjcdkjgkchaa
