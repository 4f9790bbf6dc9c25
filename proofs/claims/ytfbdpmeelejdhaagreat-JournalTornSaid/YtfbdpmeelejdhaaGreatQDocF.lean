/-
  The document's store (wheelhouseref11): Rename.
-/
import Derived.Test.YtfbdpmeelejdhaaGreatQDocE
namespace Go.Proofs.YtfbdpmeelejdhaaGreat
open Go.RowKit Go.Maps
set_option linter.unusedSimpArgs false


end Go.Proofs.YtfbdpmeelejdhaaGreat
