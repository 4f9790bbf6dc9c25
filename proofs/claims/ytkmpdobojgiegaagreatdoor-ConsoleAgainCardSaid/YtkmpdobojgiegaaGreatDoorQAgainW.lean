/-
  ConsoleAgain returns true, whatever its arguments: the walk, as the frame asks for it.
-/
import Derived.Test.YtkmpdobojgiegaaGreatDoorQAgain
import Derived.Test.YtkmpdobojgiegaaGreatDoorQOpsC
namespace Go.Proofs.YtkmpdobojgiegaaGreatDoor
open Go.RowKit Go.Maps

theorem consoleAgain_walk (w : World) (x : Con) (a : Option Addr) (n cp : Nat) (l : List Op33) (a2 : Option Addr) (n2 cp2 : Nat) (keep : List Int) (_hx : ConOk x) (hl : SlAt opR33 5 w a n l ∧ ∀ x ∈ l, x.good w)
    (hk : SlAt intR 1 w a2 n2 keep ∧ ∀ k ∈ keep, -9223372036854775808 ≤ k ∧ k ≤ 9223372036854775807) (he : Ety w) :
    Calls Tryz.prog 4 #[.agg (conR x).toArray, .slice a n cp, .slice a2 n2 cp2] w fun e w' => e = .returned (.bool true) ∧ Keeps (fun _ => False) w w' := consoleAgain_w w x a n cp l hl a2 n2 cp2 keep hk he
end Go.Proofs.YtkmpdobojgiegaaGreatDoor
