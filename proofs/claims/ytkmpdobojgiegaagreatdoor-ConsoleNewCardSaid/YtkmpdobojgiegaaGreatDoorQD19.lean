/-
  The document's line by value (wheelhouseref19): Start, late, failed, Lost, Next, Send.
-/
import Derived.Test.YtkmpdobojgiegaaGreatDoorQD17C
import Derived.Test.YtkmpdobojgiegaaGreatDoorQCells
namespace Go.Proofs.YtkmpdobojgiegaaGreatDoor
open Go.RowKit
set_option linter.unusedSimpArgs false

/-- a line's cells, over two slices -/
def lnR (m : Ln) (fv lv : Value) : List Value := [.int .i64 m.base, .int .i64 m.cap, .int .i64 m.jit, .int .i64 m.st, .int .i64 m.n, .int .i64 m.at_, fv, lv, .int .i64 m.start, .int .i64 m.done, .string (str m.held)]
/-- a line by value -/
def LnV (w : World) (v : Value) (m : Ln) : Prop := ∃ a c a' c', v = .agg (lnR m (.slice a m.first.length c) (.slice a' m.l.length c')).toArray ∧ SlAt stpR 3 w a m.first.length m.first ∧ SlAt stpR 3 w a' m.l.length m.l
theorem LnV.keeps {w w' : World} {v : Value} {m : Ln} (h : LnV w v m) (k : Keeps (fun _ => False) w w') : LnV w' v m := by
  obtain ⟨a, c, a', c', hv, h1, h2⟩ := h
  exact ⟨a, c, a', c', hv, h1.keeps k (fun _ _ h => h), h2.keeps k (fun _ _ h => h)⟩
theorem slat_nil {w : World} {a : Option Addr} : SlAt stpR 3 w a 0 ([] : List Stp) := ⟨rfl, fun h => absurd h (Nat.lt_irrefl _)⟩
theorem Blk.new3 (w : World) (o o' : Obj) (t : TypeId) (cs : Array Value) : Blk (((w.alloc o).alloc o').alloc (.cells cs t)) (w.heap.size + 1 + 1) t cs := by
  have := Blk.new ((w.alloc o).alloc o') t cs
  rwa [World.size_alloc, World.size_alloc] at this
/-- a line's two blocks behind a call: the argument's, the result's -/
structure Two19 (w w2 : World) (xs zs : Array Value) : Prop where
  x : Blk w2 w.heap.size 36 xs
  z : Blk w2 (w.heap.size + 1) 36 zs
  k : Keeps (fun _ => False) w w2
def zero19 : Array Value := #[.int .i64 0, .int .i64 0, .int .i64 0, .int .i64 0, .int .i64 0, .int .i64 0, .slice none 0 0, .slice none 0 0, .int .i64 0, .int .i64 0, .string ⟨#[]⟩]
theorem Two19.call {w w2 : World} {xs zs : Array Value} (k : Keeps (fun _ => False) ((w.alloc (.cells xs 36)).alloc (.cells zs 36)) w2) : Two19 w w2 xs zs :=
  ⟨((Blk.new w _ _).alloc _).keeps k id, (Blk.new2 w _ _ _).keeps k id, Keeps.trans (((Keeps.refl _ _).alloc _).alloc _) k⟩
theorem Two19.same {w w2 w3 : World} {xs zs : Array Value} (h : Two19 w w2 xs zs) (k : Keeps (fun _ => False) w2 w3) : Two19 w w3 xs zs := ⟨h.x.keeps k id, h.z.keeps k id, h.k.trans k⟩
end Go.Proofs.YtkmpdobojgiegaaGreatDoor
