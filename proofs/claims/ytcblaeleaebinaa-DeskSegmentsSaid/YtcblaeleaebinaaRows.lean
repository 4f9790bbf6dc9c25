/-
  No cell of these rows narrows 'for every input' (looked for: loops, veiled, ifaces, maps, wideKeys, modest, calm, conditions, laid).
  DERIVED. THE GIVEN ROWS OF THIS SEAT. 5 by the template 'for every input the law returns true; each argument reads behind the call as it read before'; 0 by the template 'total and deterministic' (their statements: YtcblaeleaebinaaTotals.lean).
  GIVEN WITH THE SEED: the statements are not yours to turn. If you find one false, say at which input.
  Laid BY PROGRAM, IN A SANDBOX (cutbox-rows.mjs): the forced cells as the released guide's own fill.sh prints them over the translation 305dd1fcff1886d6… (all of the seat's roots in one cut). By AI agents, Wed Nov 11 2026. No macro, syntax, notation, axiom, sorry.
-/
import Derived.Test.YtcblaeleaebinaaChecked
import GoSem.Claim
import GoSem.ClaimJoined
import GoSem.ClaimMapViews
import Derived.JoinedTies
import Derived.KernelRfl
namespace Go.Proofs.Ytcblaeleaebinaa
/- THE CELL 'sum', in the pinned program and in every row, IS THE sha256 OF THE DUMP (.gsa) THAT YtcblaeleaebinaaProg.lean LOADS. Nothing in Lean hashes anything: it is a label: what it is worth is what the hold of that sum in a sandbox is worth. -/
noncomputable def Try.pinned : Pinned := { name := "ytcblaeleaebinaa", sum := "305dd1fcff1886d6dfcbf0306dcd31c7532e736dfa4b0573d95a63421f6a271c", checked := Try.checked }
namespace Rows
def none {H : Type} : Left H := { results := [], args := [] }

/-- 'wheelhouselaw32.DeskTorn': WHATEVER THE INPUT: true; the input reads as it did. -/
def deskTornSpec : ChangeSpec := { name := "deskTorn", fn := fun _ => fun
  | [d1, d2, d3] => { results := [.lit (.bool true)], args := [d1, d2, d3] }
  | _ => none }
def deskTornRow : OpenClaim := { program := "ytcblaeleaebinaa", sum := "305dd1fcff1886d6dfcbf0306dcd31c7532e736dfa4b0573d95a63421f6a271c", func := "wheelhouse/wheelhouselaw32.DeskTorn", spec := "deskTorn", inPlace := ["internal/bytealg.CountString", "internal/bytealg.IndexByteString", "internal/bytealg.IndexString", "internal/abi.NoEscape"], named := ["internal/bytealg.MaxLen"], apart := false }
def DeskTornSaid : Prop := deskTornRow.holds Try.pinned (OpenSpec.ofChange deskTornSpec)

/-- ITS FALSE NEIGHBOUR: 'it returns false'. Refute it at one input. -/
def deskTornWrong : ChangeSpec := { name := "deskTorn", fn := fun _ => fun
  | [d1, d2, d3] => { results := [.lit (.bool false)], args := [d1, d2, d3] }
  | _ => none }
def DeskTornWrongFalsely : Prop := deskTornRow.holds Try.pinned (OpenSpec.ofChange deskTornWrong)

/-- 'wheelhouselaw32.DeskSends': WHATEVER THE INPUT: true; the input reads as it did. -/
def deskSendsSpec : ChangeSpec := { name := "deskSends", fn := fun _ => fun
  | [d1, d2] => { results := [.lit (.bool true)], args := [d1, d2] }
  | _ => none }
def deskSendsRow : OpenClaim := { program := "ytcblaeleaebinaa", sum := "305dd1fcff1886d6dfcbf0306dcd31c7532e736dfa4b0573d95a63421f6a271c", func := "wheelhouse/wheelhouselaw32.DeskSends", spec := "deskSends", inPlace := ["internal/bytealg.CountString", "internal/bytealg.IndexByteString", "internal/bytealg.IndexString", "internal/abi.NoEscape"], named := ["internal/bytealg.MaxLen"], apart := false }
def DeskSendsSaid : Prop := deskSendsRow.holds Try.pinned (OpenSpec.ofChange deskSendsSpec)

/-- ITS FALSE NEIGHBOUR: 'it returns false'. Refute it at one input. -/
def deskSendsWrong : ChangeSpec := { name := "deskSends", fn := fun _ => fun
  | [d1, d2] => { results := [.lit (.bool false)], args := [d1, d2] }
  | _ => none }
def DeskSendsWrongFalsely : Prop := deskSendsRow.holds Try.pinned (OpenSpec.ofChange deskSendsWrong)

/-- 'wheelhouselaw32.DeskCuts': WHATEVER THE INPUT: true; the input reads as it did. -/
def deskCutsSpec : ChangeSpec := { name := "deskCuts", fn := fun _ => fun
  | [d1, d2] => { results := [.lit (.bool true)], args := [d1, d2] }
  | _ => none }
def deskCutsRow : OpenClaim := { program := "ytcblaeleaebinaa", sum := "305dd1fcff1886d6dfcbf0306dcd31c7532e736dfa4b0573d95a63421f6a271c", func := "wheelhouse/wheelhouselaw32.DeskCuts", spec := "deskCuts", inPlace := ["internal/bytealg.CountString", "internal/bytealg.IndexByteString", "internal/bytealg.IndexString", "internal/abi.NoEscape"], named := ["internal/bytealg.MaxLen"], apart := false }
def DeskCutsSaid : Prop := deskCutsRow.holds Try.pinned (OpenSpec.ofChange deskCutsSpec)

/-- ITS FALSE NEIGHBOUR: 'it returns false'. Refute it at one input. -/
def deskCutsWrong : ChangeSpec := { name := "deskCuts", fn := fun _ => fun
  | [d1, d2] => { results := [.lit (.bool false)], args := [d1, d2] }
  | _ => none }
def DeskCutsWrongFalsely : Prop := deskCutsRow.holds Try.pinned (OpenSpec.ofChange deskCutsWrong)

/-- 'wheelhouselaw32.DeskHolds': WHATEVER THE INPUT: true; the input reads as it did. -/
def deskHoldsSpec : ChangeSpec := { name := "deskHolds", fn := fun _ => fun
  | [d1, d2, d3] => { results := [.lit (.bool true)], args := [d1, d2, d3] }
  | _ => none }
def deskHoldsRow : OpenClaim := { program := "ytcblaeleaebinaa", sum := "305dd1fcff1886d6dfcbf0306dcd31c7532e736dfa4b0573d95a63421f6a271c", func := "wheelhouse/wheelhouselaw32.DeskHolds", spec := "deskHolds", inPlace := ["internal/bytealg.CountString", "internal/bytealg.IndexByteString", "internal/bytealg.IndexString", "internal/abi.NoEscape"], named := ["internal/bytealg.MaxLen"], apart := false }
def DeskHoldsSaid : Prop := deskHoldsRow.holds Try.pinned (OpenSpec.ofChange deskHoldsSpec)

/-- ITS FALSE NEIGHBOUR: 'it returns false'. Refute it at one input. -/
def deskHoldsWrong : ChangeSpec := { name := "deskHolds", fn := fun _ => fun
  | [d1, d2, d3] => { results := [.lit (.bool false)], args := [d1, d2, d3] }
  | _ => none }
def DeskHoldsWrongFalsely : Prop := deskHoldsRow.holds Try.pinned (OpenSpec.ofChange deskHoldsWrong)

/-- 'wheelhouselaw32.DeskSegments': WHATEVER THE INPUT: true; the input reads as it did. -/
def deskSegmentsSpec : ChangeSpec := { name := "deskSegments", fn := fun _ => fun
  | [d1, d2] => { results := [.lit (.bool true)], args := [d1, d2] }
  | _ => none }
def deskSegmentsRow : OpenClaim := { program := "ytcblaeleaebinaa", sum := "305dd1fcff1886d6dfcbf0306dcd31c7532e736dfa4b0573d95a63421f6a271c", func := "wheelhouse/wheelhouselaw32.DeskSegments", spec := "deskSegments", inPlace := ["internal/bytealg.CountString", "internal/bytealg.IndexByteString", "internal/bytealg.IndexString", "internal/abi.NoEscape"], unfollowed := true, recurses := true, named := ["internal/bytealg.MaxLen"], apart := false }
def DeskSegmentsSaid : Prop := deskSegmentsRow.holds Try.pinned (OpenSpec.ofChange deskSegmentsSpec)

/-- ITS FALSE NEIGHBOUR: 'it returns false'. Refute it at one input. -/
def deskSegmentsWrong : ChangeSpec := { name := "deskSegments", fn := fun _ => fun
  | [d1, d2] => { results := [.lit (.bool false)], args := [d1, d2] }
  | _ => none }
def DeskSegmentsWrongFalsely : Prop := deskSegmentsRow.holds Try.pinned (OpenSpec.ofChange deskSegmentsWrong)

/- THE SECOND FORM. 'bulk': how many values and letters a reading holds, each counted each time it is reached (what is shared counts as often as it is met; a slice's spare places count too). A statement '..UptoSaid' is the law's where the arguments, and the package variables that the reading takes, are together of bulk at most 1048576: NARROWER than '..Said'. Prove '..Said' where nothing that the law and all that it calls make is longer than what came in: it says more and counts as full. Else prove '..UptoSaid'. A law counts once. -/
mutual
def uptoBulk {H : Type} : DataW H → Nat
  | .lit (.string bytes) => bytes.length + 1
  | .lit _ => 1
  | .nil => 1
  | .ptr d => uptoBulk d + 1
  | .slice elems spare => uptoBulkAll elems + uptoBulkAll spare + 1
  | .agg parts => uptoBulkAll parts + 1
  | .iface _ d => uptoBulk d + 1
  | .map entries => uptoBulkEntries entries + 1
  | .held _ => 1
def uptoBulkAll {H : Type} : List (DataW H) → Nat
  | [] => 0
  | d :: r => uptoBulk d + uptoBulkAll r
def uptoBulkEntries {H : Type} : List (Lit × DataW H) → Nat
  | [] => 0
  | x :: r => uptoBulkEntry x + uptoBulkEntries r
def uptoBulkEntry {H : Type} : Lit × DataW H → Nat
  | (.string bytes, d) => bytes.length + uptoBulk d + 1
  | (_, d) => uptoBulk d + 1
 end
def uptoSmall : (H : Type) → List (DataW H) → Bool := fun _ ds => decide (uptoBulkAll ds ≤ 1048576)
def OpenSpec.upto (s : _root_.Go.ChangeSpec) : _root_.Go.OpenSpec := { _root_.Go.OpenSpec.ofChange s with cond := some uptoSmall }

/-- 'wheelhouselaw32.DeskTorn', WHERE WHAT IT READS IS OF BULK AT MOST 1048576: true; the input reads as it did. -/
def deskTornUptoRow : OpenClaim := { program := "ytcblaeleaebinaa", sum := "305dd1fcff1886d6dfcbf0306dcd31c7532e736dfa4b0573d95a63421f6a271c", func := "wheelhouse/wheelhouselaw32.DeskTorn", spec := "deskTorn", inPlace := ["internal/bytealg.CountString", "internal/bytealg.IndexByteString", "internal/bytealg.IndexString", "internal/abi.NoEscape"], named := ["internal/bytealg.MaxLen"], apart := false, narrowed := true }
def DeskTornUptoSaid : Prop := deskTornUptoRow.holds Try.pinned (OpenSpec.upto deskTornSpec)

/-- 'wheelhouselaw32.DeskSends', WHERE WHAT IT READS IS OF BULK AT MOST 1048576: true; the input reads as it did. -/
def deskSendsUptoRow : OpenClaim := { program := "ytcblaeleaebinaa", sum := "305dd1fcff1886d6dfcbf0306dcd31c7532e736dfa4b0573d95a63421f6a271c", func := "wheelhouse/wheelhouselaw32.DeskSends", spec := "deskSends", inPlace := ["internal/bytealg.CountString", "internal/bytealg.IndexByteString", "internal/bytealg.IndexString", "internal/abi.NoEscape"], named := ["internal/bytealg.MaxLen"], apart := false, narrowed := true }
def DeskSendsUptoSaid : Prop := deskSendsUptoRow.holds Try.pinned (OpenSpec.upto deskSendsSpec)

/-- 'wheelhouselaw32.DeskCuts', WHERE WHAT IT READS IS OF BULK AT MOST 1048576: true; the input reads as it did. -/
def deskCutsUptoRow : OpenClaim := { program := "ytcblaeleaebinaa", sum := "305dd1fcff1886d6dfcbf0306dcd31c7532e736dfa4b0573d95a63421f6a271c", func := "wheelhouse/wheelhouselaw32.DeskCuts", spec := "deskCuts", inPlace := ["internal/bytealg.CountString", "internal/bytealg.IndexByteString", "internal/bytealg.IndexString", "internal/abi.NoEscape"], named := ["internal/bytealg.MaxLen"], apart := false, narrowed := true }
def DeskCutsUptoSaid : Prop := deskCutsUptoRow.holds Try.pinned (OpenSpec.upto deskCutsSpec)

/-- 'wheelhouselaw32.DeskHolds', WHERE WHAT IT READS IS OF BULK AT MOST 1048576: true; the input reads as it did. -/
def deskHoldsUptoRow : OpenClaim := { program := "ytcblaeleaebinaa", sum := "305dd1fcff1886d6dfcbf0306dcd31c7532e736dfa4b0573d95a63421f6a271c", func := "wheelhouse/wheelhouselaw32.DeskHolds", spec := "deskHolds", inPlace := ["internal/bytealg.CountString", "internal/bytealg.IndexByteString", "internal/bytealg.IndexString", "internal/abi.NoEscape"], named := ["internal/bytealg.MaxLen"], apart := false, narrowed := true }
def DeskHoldsUptoSaid : Prop := deskHoldsUptoRow.holds Try.pinned (OpenSpec.upto deskHoldsSpec)

/-- 'wheelhouselaw32.DeskSegments', WHERE WHAT IT READS IS OF BULK AT MOST 1048576: true; the input reads as it did. -/
def deskSegmentsUptoRow : OpenClaim := { program := "ytcblaeleaebinaa", sum := "305dd1fcff1886d6dfcbf0306dcd31c7532e736dfa4b0573d95a63421f6a271c", func := "wheelhouse/wheelhouselaw32.DeskSegments", spec := "deskSegments", inPlace := ["internal/bytealg.CountString", "internal/bytealg.IndexByteString", "internal/bytealg.IndexString", "internal/abi.NoEscape"], unfollowed := true, recurses := true, named := ["internal/bytealg.MaxLen"], apart := false, narrowed := true }
def DeskSegmentsUptoSaid : Prop := deskSegmentsUptoRow.holds Try.pinned (OpenSpec.upto deskSegmentsSpec)

end Rows
end Go.Proofs.Ytcblaeleaebinaa
