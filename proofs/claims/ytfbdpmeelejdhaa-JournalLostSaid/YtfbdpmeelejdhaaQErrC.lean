/-
  errors.As over a chain of Faults that ends in a Kind, at the two targets: what it answers and what it sets.
-/
import Derived.Test.YtfbdpmeelejdhaaQErrB
namespace Go.Proofs.Ytfbdpmeelejdhaa
open Go.RowKit Go.Extern.Stop Go.Stop Go.Extern

end Go.Proofs.Ytfbdpmeelejdhaa
