/-
  law11: a store, and the document's in a variable, while acts go on.
-/
import Derived.Test.YtdbnalocmjkncaaGreatDoorQActs
namespace Go.Proofs.YtdbnalocmjkncaaGreatDoor
open Go.RowKit Go.Maps
attribute [local instance] noRes

theorem DocL.drew {w : World} {v : Value} {l : List SFile} (h : DocL w v l) : DocL w.drew v l := h
section
variable {w0 w w' : World} {s M bad n : Nat} {most : Int} {L : List SRep} {v : Value} {xb : Nat}
theorem Sto.mono_n (h : Sto w0 w s M most bad L n) (hn : n < 1048576 := by assumption) : Sto w0 w s M most bad L (n + 1) := { h with len := Nat.le_succ_of_le h.len, hn := hn }
/-- a store, and the document's in a variable -/
structure Pair (w0 wr : World) (s M : Nat) (most : Int) (bad : Nat) (L : List SRep) (v : Value) (xb n : Nat) : Prop where
  sto : Sto w0 wr s M most bad L n
  doc : DocL wr v (L.map SRep.f)
  xat : Blk wr xb 27 #[v, .int .i64 most, .int .i64 bad]
  xlo : w0.heap.size ≤ xb
theorem Pair.same (h : Pair w0 w s M most bad L v xb n) (k : Keeps (fun _ => False) w w') : Pair w0 w' s M most bad L v xb n :=
  ⟨h.sto.same k, h.doc.keeps k, h.xat.keeps k id, h.xlo⟩
theorem Pair.slc (h : Pair w0 w s M most bad L v xb n) : ∃ a n c, v = .slice a n c := h.doc.slc
theorem Pair.mono_n (h : Pair w0 w s M most bad L v xb n) (hn : n < 1048576) : Pair w0 w s M most bad L v xb (n + 1) := { h with sto := h.sto.mono_n hn }
/-- behind an act (w3), and what it told is put into the variable (wx) -/
theorem Pair.fin {w3 wx : World} {x : Nat × List SFile} {v3 : Value} {L3 : List SRep} {m : Nat} (h : Pair w0 w s M most bad L v xb n) (hS : Sto w0 w3 s M most x.1 L3 m) (hl : L3.map SRep.f = x.2) (hd : DocL w3 v3 x.2) (k3 : Keeps (fun i => w0.heap.size ≤ i ∧ StR w i) w w3)
    (kx : Keeps (fun i => i = xb) w3 wx) (hx : Blk wx xb 27 #[v3, .int .i64 most, .int .i64 x.1]) : Pair w0 wx s M most x.1 L3 v3 xb m := by
  have h3 := h.xat.other k3 (by decide) (by decide) (by decide)
  have hlo := h.xlo
  refine ⟨hS.beside kx (fun i e => by subst e; exact ⟨hlo, _, _, h3, by decide, by decide, by decide⟩), ?_, hx, h.xlo⟩
  rw [hl]
  exact OwnS.keeps hd kx (fun i _ _ ⟨cs, hb⟩ e => Blk.ne_ hb (e ▸ h3) (by decide) rfl)
end
end Go.Proofs.YtdbnalocmjkncaaGreatDoor
