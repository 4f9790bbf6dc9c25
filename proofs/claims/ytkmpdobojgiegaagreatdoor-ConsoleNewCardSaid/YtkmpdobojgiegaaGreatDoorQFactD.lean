/-
  The program's own facts, by the kernel: its main package.
-/
import Derived.Test.YtkmpdobojgiegaaGreatDoorRows
import Derived.JoinedOf
namespace Go.Proofs.YtkmpdobojgiegaaGreatDoor
theorem factMain : (Tryz.pinned.checked.prog).mainIs = some ((true, "3f69dfdb8858f674d109115ba57ecf7dbf02fb32f5d75af0354637e865d15142").fst, (true, "3f69dfdb8858f674d109115ba57ecf7dbf02fb32f5d75af0354637e865d15142").snd.toList) := by kernel_rfl
end Go.Proofs.YtkmpdobojgiegaaGreatDoor
