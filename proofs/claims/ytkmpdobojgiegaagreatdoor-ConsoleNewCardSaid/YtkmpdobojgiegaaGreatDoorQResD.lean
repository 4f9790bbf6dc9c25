/-
  restore.scans makes its iterator; restore.Load is what a log tells.
-/
import Derived.Test.YtkmpdobojgiegaaGreatDoorQResA
import Derived.Test.YtkmpdobojgiegaaGreatDoorQResC
import Derived.Test.YtkmpdobojgiegaaGreatDoorQGround4
namespace Go.Proofs.YtkmpdobojgiegaaGreatDoor
open Go.RowKit

set_option maxRecDepth 100000 in
theorem rscans_any (w : World) (p : Option Addr) (base : ByteArray) (k : Int) :
    Calls Tryz.prog 166 #[.pointer p, .string base, .int .i64 k] w fun e w' => e = .returned (.func (.func 215) #[] #[.pointer (some ⟨w.heap.size, 0, none⟩), .pointer (some ⟨w.heap.size + 1, 0, none⟩), .pointer (some ⟨w.heap.size + 2, 0, none⟩)]) ∧
      (w'.cell? ⟨w.heap.size, 0, none⟩ = some (.pointer p) ∧ w'.cell? ⟨w.heap.size + 1, 0, none⟩ = some (.string base) ∧ w'.cell? ⟨w.heap.size + 2, 0, none⟩ = some (.int .i64 k)) ∧ w'.heap.size = w.heap.size + 3 ∧ Keeps (fun _ => False) w w' := by
  have hmf : ∀ (fn : Fn) (first cap : Array Value) (w : World), (Instr.makeFunc fn first cap).run Tryz.prog w = .ok (.func fn first cap) w := fun _ _ _ _ => rfl
  go_enter Tryz.func166, Tryz.ntmps166
  go_wp2_with fail
  go_ret
  have c0 := ((Blk.new w 25 #[.pointer p]).alloc (.cells #[.string base] 9)).alloc (.cells #[.int .i64 k] 3)
  have c1 := (Blk.new (w.alloc (.cells #[.pointer p] 25)) 9 #[.string base]).alloc (.cells #[.int .i64 k] 3)
  have c2 := Blk.new ((w.alloc (.cells #[.pointer p] 25)).alloc (.cells #[.string base] 9)) 3 #[.int .i64 k]
  simp only [World.size_alloc] at c0 c1 c2
  exact ⟨rfl, ⟨c0.cell 0, c1.cell 0, c2.cell 0⟩, by simp only [World.size_alloc], by (repeat (first | (with_reducible assumption) | (with_reducible exact Keeps.refl _ _) | refine Keeps.drew ?_ | refine Keeps.drewN ?_ _ | refine Keeps.setCell ?_ (by simp) _ | refine Keeps.setRow ?_ (by simp) _ | refine Keeps.alloc ?_ _))⟩
def tornS (l : List Int) : Int := l.foldl (fun a x => a + x) 0
def lostS (l : List Itm) : Int := l.foldl (fun a x => min 1099511627776 (a + lostI x)) 0
end Go.Proofs.YtkmpdobojgiegaaGreatDoor
