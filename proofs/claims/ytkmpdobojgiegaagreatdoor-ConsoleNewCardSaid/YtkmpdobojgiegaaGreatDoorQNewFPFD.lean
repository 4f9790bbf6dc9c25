/-
  ConsoleNew: what its row goes by, by the kernel.
-/
import Derived.Test.YtkmpdobojgiegaaGreatDoorRows
import Derived.SevenTiedAt
import Derived.JoinedOf
namespace Go.Proofs.YtkmpdobojgiegaaGreatDoor.lawConsoleNew
theorem fGoes : false = Rows.consoleNewRow.goesBy Tryz.pinned.checked.prog := by kernel_rfl
end Go.Proofs.YtkmpdobojgiegaaGreatDoor.lawConsoleNew
