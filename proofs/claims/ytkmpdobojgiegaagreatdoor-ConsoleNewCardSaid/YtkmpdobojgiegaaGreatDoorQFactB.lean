/-
  The program's own facts, by the kernel: its maps.
-/
import Derived.Test.YtkmpdobojgiegaaGreatDoorRows
import Derived.JoinedOf
namespace Go.Proofs.YtkmpdobojgiegaaGreatDoor
theorem factMaps : mapsRowed Tryz.pinned.checked.prog = true := by kernel_rfl
theorem factStops : (Tryz.pinned.checked.prog).stopsHeard = true := by kernel_rfl
end Go.Proofs.YtkmpdobojgiegaaGreatDoor
