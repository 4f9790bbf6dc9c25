/-
  The document's turn of a log's generations (wheelhouseref21).
-/
import Derived.Test.YtkmpdobojgiegaaGreatDoorQLoadR
import Derived.Test.YtkmpdobojgiegaaGreatDoorQGround3
namespace Go.Proofs.YtkmpdobojgiegaaGreatDoor
open Go.RowKit Go.Maps

theorem DocL.far3 {w : World} {v : Value} {l : List SFile} (h : DocL w v l) {q : Nat} {cs : Array Value} (hb : Blk w q 43 cs) (x y z : Value) : DocL (((w.setCell ⟨q, 0, none⟩ x).setCell ⟨q, 1, none⟩ y).setCell ⟨q, 2, none⟩ z) v l :=
  OwnS.keeps h ((((Keeps.refl (fun i => i = q) w).setCell (p := ⟨q, 0, none⟩) (fun _ => rfl) x).setCell (p := ⟨q, 1, none⟩) (fun _ => rfl) y).setCell (p := ⟨q, 2, none⟩) (fun _ => rfl) z) (fun i _ _ ⟨cs', hb'⟩ e => by subst e; exact hb'.ne_ hb (by decide) rfl)
/-- the turn's two variables: what there is, and what it hands back -/
structure TurnV (w0 wr : World) (v : Value) (most : Int) (bad : Nat) (l : List SFile) : Prop where
  x : Blk wr w0.heap.size 43 #[v, .int .i64 most, .int .i64 bad]
  z : Blk wr (w0.heap.size + 1) 43 #[.slice none 0 0, .int .i64 0, .int .i64 0]
  d : DocL wr v l
  k : Keeps (fun _ => False) w0 wr
theorem TurnV.same {w0 wr wx : World} {v : Value} {most : Int} {bad : Nat} {l : List SFile} (h : TurnV w0 wr v most bad l) (k : Keeps (fun _ => False) wr wx) : TurnV w0 wx v most bad l := ⟨h.x.keeps k id, h.z.keeps k id, h.d.keeps k, h.k.trans k⟩
theorem TurnV.at_ {w0 wr : World} {v : Value} {most : Int} {bad : Nat} {l : List SFile} (h : TurnV w0 wr v most bad l) : ∀ W, Keeps (fun _ => False) wr W → W.cell? ⟨w0.heap.size, 0, none⟩ = some v ∧ W.cell? ⟨w0.heap.size, 1, none⟩ = some (.int .i64 most) ∧ W.cell? ⟨w0.heap.size, 2, none⟩ = some (.int .i64 bad) := fun _ kk => (h.x.keeps kk id).cells3
/-- another is put there -/
theorem TurnV.set_ {w0 wr : World} {v v2 : Value} {most : Int} {bad bad2 : Nat} {l l2 : List SFile} (h : TurnV w0 wr v most bad l) (hd : DocL wr v2 l2) : TurnV w0 (((wr.setCell ⟨w0.heap.size, 0, none⟩ v2).setCell ⟨w0.heap.size, 1, none⟩ (.int .i64 most)).setCell ⟨w0.heap.size, 2, none⟩ (.int .i64 bad2)) v2 most bad2 l2 := by
  refine ⟨((h.x.set_ 0 _).set_ 1 _).set_ 2 _, ((h.z.far (by simp) _).far (by simp) _).far (by simp) _, hd.far3 h.x _ _ _, ?_⟩
  exact h.k.setC3 (Nat.le_refl _) _ _ _

end Go.Proofs.YtkmpdobojgiegaaGreatDoor
