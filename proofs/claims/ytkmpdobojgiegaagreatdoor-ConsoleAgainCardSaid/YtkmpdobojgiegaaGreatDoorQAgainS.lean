/-
  gens.All, the document's Tail, over stores with footprints.
-/
import Derived.Test.YtkmpdobojgiegaaGreatDoorQAgainB
import Derived.Test.YtkmpdobojgiegaaGreatDoorQAgainP
import Derived.Test.YtkmpdobojgiegaaGreatDoorQGround3
import Derived.Test.YtkmpdobojgiegaaGreatDoorQTailD
namespace Go.Proofs.YtkmpdobojgiegaaGreatDoor
open Go.RowKit Go.Maps

theorem gallF {w0 w : World} {F : Nat → Prop} {s n bad : Nat} {most : Int} {l : List SFile} (h : StoF w0 w F s most bad l n) (base : ByteArray) (k : Int) (hb : base.size ≤ 1048576) :
    Calls Tryz.prog 19 #[.pointer (some ⟨s, 0, none⟩), .string base, .int .i64 k] w fun e w' => (∃ v, e = .returned v ∧ OwnL w' w.heap.size 9 v ((allP l base (heldP k)).map Value.string)) ∧ Keeps (fun _ => False) w w' := by
  obtain ⟨M, L, hL, hF, hS⟩ := h
  letI : Res := resF w F
  have := gall_any hS base k hb
  rwa [hL] at this
end Go.Proofs.YtkmpdobojgiegaaGreatDoor
