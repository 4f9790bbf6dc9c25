/-
  conf: a statement out of a key and arguments.
-/
import Derived.Test.YtfpajgmdejlaeaaGreatDoorQConfU
namespace Go.Proofs.YtfpajgmdejlaeaaGreatDoor
open Go.RowKit Go.Maps

/-- a statement without a block, out of a key and arguments -/
def flatV (key : ByteArray) (a : Option Addr) (n c : Nat) : NdV := ⟨key, a, n, c, false, none, 0, 0, 0⟩
theorem told1_any (w : World) (key : ByteArray) (a : Option Addr) (n c : Nat) : Calls Tryz.prog 57 #[.string key, .slice a n c] w fun e w' => e = .returned (.agg (ndR (flatV key a n c)).toArray) ∧ Keeps (fun _ => False) w w' := by
  go_enter Tryz.func57, Tryz.ntmps57
  go_wp2_with fail
  refine ret_cell rfl w.heap.size 60 _ _ rfl (Blk.new _ _ _) Tryz.underlying60 rfl (by kernel_rfl) rfl ?_
  exact ⟨rfl, (Keeps.refl _ _).alloc _⟩
end Go.Proofs.YtfpajgmdejlaeaaGreatDoor
