/-
  ConsoleAgain: what its row goes by, by the kernel.
-/
import Derived.Test.YtkmpdobojgiegaaGreatDoorRows
import Derived.SevenTiedAt
import Derived.JoinedOf
namespace Go.Proofs.YtkmpdobojgiegaaGreatDoor.lawConsoleAgain
theorem fGoes : false = Rows.consoleAgainRow.goesBy Tryz.pinned.checked.prog := by kernel_rfl
end Go.Proofs.YtkmpdobojgiegaaGreatDoor.lawConsoleAgain
