/-
  A store's foreign blocks: more of them, or fewer.
-/
import Derived.Test.YtdbnalocmjkncaaGreatDoorQBoth
import Derived.Test.YtdbnalocmjkncaaGreatDoorQStoQ
namespace Go.Proofs.YtdbnalocmjkncaaGreatDoor
open Go.RowKit Go.Maps

section
variable {w0 w w' : World} {s M bad n : Nat} {most : Int} {L : List SRep} {R1 R2 : Nat → Prop}
/-- blocks that are new since a world in which the store stood become somebody else's -/
theorem Sto.reserve (h : @Sto ⟨R1⟩ w0 w s M most bad L n) (k : Keeps (fun _ => False) w w') (hR : ∀ i, R2 i → w.heap.size ≤ i ∧ i < w'.heap.size) : @Sto ⟨fun i => R1 i ∨ R2 i⟩ w0 w' s M most bad L n := by
  obtain ⟨ety, keeps, store, res, fit, len, hn, hb, m1, m2⟩ := h
  exact @Sto.mk ⟨fun i => R1 i ∨ R2 i⟩ _ _ _ _ _ _ _ _ ety (keeps.trans k)
      ((store.below_.keeps k (fun _ _ => id)).mono fun i hi => ⟨hi.1.1, fun e => e.elim hi.1.2 (fun e => by have := (hR i e).1; have := hi.2; omega)⟩)
      (fun i hi => hi.elim (fun e => Nat.lt_of_lt_of_le (res i e) k.size) (fun e => (hR i e).2)) fit len hn hb m1 m2
/-- fewer blocks are somebody else's -/
theorem Sto.release (h : @Sto ⟨R1⟩ w0 w s M most bad L n) (hR : ∀ i, R2 i → R1 i) : @Sto ⟨R2⟩ w0 w s M most bad L n := by
  obtain ⟨ety, keeps, store, res, fit, len, hn, hb, m1, m2⟩ := h
  exact @Sto.mk ⟨R2⟩ _ _ _ _ _ _ _ _ ety keeps (store.mono fun i hi => ⟨hi.1, fun e => hi.2 (hR i e)⟩) (fun i hi => res i (hR i hi)) fit len hn hb m1 m2
end
end Go.Proofs.YtdbnalocmjkncaaGreatDoor
