/-
  What the rows' condition on the listed variable gives a walk; a world that meets it.
-/
import Derived.Test.YtemjbblehiaobaaDoorTie
import Derived.Test.YtemjbblehiaobaaDoorCards
import Derived.Test.YtemjbblehiaobaaDoorErrC
import Derived.ChangeSame
import Derived.ChangeVars
import Derived.JoinedOf
import Derived.LaidLaws
import Derived.LaidHandle
import Derived.Stop.Joined
import Derived.SevenTiedAt
namespace Go.Proofs.YtemjbblehiaobaaDoor
open Go.ChangeShapes Go.WideShapes Go.RowKit

theorem cardOwn : ownKnob Tryd.prog.godebug = none := by kernel_rfl
theorem cardEt : Tryd.prog.globalNamed "errors.errorType" = some 0 := by kernel_rfl
theorem cardRt : (Tryd.prog.cutTypes.find? (·.1 == "internal/reflectlite.rtype")).map (·.2) = some tRt := by kernel_rfl
theorem cardOne : ((List.range 151).filter fun t => Tryd.prog.rowNamed t [101, 114, 114, 111, 114]) = [25] := by kernel_rfl
theorem cardSize : Tryd.prog.types.size = 151 := by kernel_rfl

/-- what the condition gives a walk: the variable's one cell -/
theorem ety_of_laid {W : World} (h : laidMetH Tryd.prog [("errors.errorType", Rows.laid_errors_errorType)] W) : Ety W := by
  have h' : laidMet Tryd.prog [] W ∧ handlesMet Tryd.prog [("errors.errorType", Rows.laid_errors_errorType)] W := h
  obtain ⟨name, u, ty, e1, e2, e3, e4, e5⟩ := h'.2 _ (List.mem_singleton.2 rfl)
  have en : name = [101, 114, 114, 111, 114] := (Option.some.inj e1).symm
  subst en
  obtain rfl := Option.some.inj (cardRt.symm.trans e2)
  have hm : ty ∈ (List.range 151).filter fun t => Tryd.prog.rowNamed t [101, 114, 114, 111, 114] := List.mem_filter.2 ⟨List.mem_range.2 (by rw [← cardSize]; exact e3), e4⟩
  rw [cardOne] at hm
  obtain rfl := List.mem_singleton.1 hm
  have hh : typeHandle Tryd.prog 25 = .pointer (some ⟨2, 25, none⟩) := by kernel_rfl
  rw [hh] at e5
  unfold Ety
  simpa using World.var?_cell cardEt e5 0

/-- a world that meets the condition: the settled one, the variable's cell laid -/
noncomputable def laidWorld (os : Os) : World :=
  let w0 := World.holding Tryd.prog os ⟨#[], #[], []⟩
  { w0 with heap := w0.heap.modify 0 fun
      | .cells _ t frozen => .cells #[rt_ 25] t frozen
      | o => o }
theorem laidWorld_met (os : Os) (args : Array Value) : laidMetH Tryd.prog [("errors.errorType", Rows.laid_errors_errorType)] ((laidWorld os).forCall (fun _ _ => 0) ⟨#[], args, []⟩).memory :=
  laidMetH_of_parts (laidMet_nil _ _) (by kernel_rfl)
end Go.Proofs.YtemjbblehiaobaaDoor
