/-
  The acts of law11's statements, read out of an argument: rows of six cells, the last a slice of ints. No program in sight.
-/
import Derived.Test.YtkmpdobojgiegaaGreatDoorQGround2
namespace Go.Proofs.YtkmpdobojgiegaaGreatDoor
open Go.RowKit Go.ChangeShapes Go.WideShapes Go.Deep

def IntB (k : Int) : Prop := -9223372036854775808 ≤ k ∧ k ≤ 9223372036854775807
def Op11.good (w : World) (x : Op11) : Prop := x.kind ≤ 255 ∧ x.a.size ≤ maxLen ∧ x.b.size ≤ maxLen ∧ x.s.size ≤ maxLen ∧ IntB x.n ∧ x.kn ≤ maxLen ∧ SlAt intR 1 w x.ka x.kn x.keep ∧ ∀ k ∈ x.keep, IntB k
theorem Op11.good.keeps {w w' : World} {x : Op11} (h : x.good w) (k : Keeps (fun i => w.heap.size ≤ i) w w') : x.good w' :=
  ⟨h.1, h.2.1, h.2.2.1, h.2.2.2.1, h.2.2.2.2.1, h.2.2.2.2.2.1, h.2.2.2.2.2.2.1.keeps k (fun _ hi e => by omega), h.2.2.2.2.2.2.2⟩

section
variable {H : Type} {enc : TypeId × Value → H} {P : Program} {w : World} {base : Nat} {spare : Nat → Bool} {held : Bool}
theorem ints_of {t e : TypeId} {a : Option Addr} {n c : Nat} {d : DataW H} {ps : List MemPlace} (ht : P.underlying t = some (.slice e)) (he : P.underlying e = some (.int .i64)) (hc : P.cellsOf e = 1)
    (h : DataW.Trod enc P w base spare held t (.slice a n c) d ps) : ∃ l : List Int, SlAt intR 1 w a n l ∧ ∀ k ∈ l, IntB k :=
  sl_of intR IntB 1 ht hc (by omega) (fun _ => rfl) (fun fuel cs y hd => by
    obtain ⟨n0, hcs, _, w0⟩ := DataW.trod_int he hd
    exact ⟨n0, hcs, by unfold IntB; simpa [Lit.wf, IntKind.min, IntKind.max, IntKind.signed, IntKind.bits] using w0⟩) h
end
end Go.Proofs.YtkmpdobojgiegaaGreatDoor
