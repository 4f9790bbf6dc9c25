/-
  Own bytes, also those that a conversion of a string laid (their row bears a mark behind its last cell).
-/
import Derived.Test.YtkmpdobojgiegaaGreatDoorQGround2
import Derived.Test.YtkmpdobojgiegaaGreatDoorQGround1
import Derived.Laws.IdiomStrings
namespace Go.Proofs.YtkmpdobojgiegaaGreatDoor
open Go.RowKit

/-- the slice value v holds the bytes cs, in a row of its own from block B on -/
def OwnZ (w : World) (B : Nat) (e : TypeId) (v : Value) (vs : List Value) : Prop :=
  (vs = [] ∧ v = .slice none 0 0) ∨ ∃ (g cap : Nat) (cur : Array Value) (fz : Nat × Nat), v = .slice (some ⟨g, 0, none⟩) vs.length cap ∧ B ≤ g ∧ w.heap[g]? = some (.cells cur e fz) ∧ (fz.2 ≤ fz.1 ∨ cur.size ≤ fz.1) ∧ vs.length ≤ cap ∧ cap ≤ cur.size ∧ cap ≤ maxLen ∧ ∀ (j : Nat) (u : Value), vs[j]? = some u → cur[j]? = some u

section
variable {w w' : World} {B : Nat} {e : TypeId} {v : Value} {vs : List Value}
theorem OwnZ.keeps {S : Nat → Prop} (h : OwnZ w B e v vs) (k : Keeps S w w') (hS : ∀ i, B ≤ i → i < w.heap.size → ¬ S i) : OwnZ w' B e v vs := by
  rcases h with h | ⟨g, cap, cur, fz, rfl, hB, hb, r⟩
  · exact .inl h
  · have hl : g < w.heap.size := by
      rcases Nat.lt_or_ge g w.heap.size with hlt | hge
      · exact hlt
      · rw [Array.getElem?_eq_none hge] at hb; cases hb
    exact .inr ⟨g, cap, cur, fz, rfl, hB, by rw [k.block g hl (hS g hB hl)]; exact hb, r⟩
theorem OwnZ.sl (h : OwnZ w B e v vs) : ∃ a cap, v = .slice a vs.length cap := by
  rcases h with ⟨rfl, rfl⟩ | ⟨g, cap, cur, fz, rfl, _⟩
  · exact ⟨none, 0, rfl⟩
  · exact ⟨_, _, rfl⟩
end

section
variable {P : Program}
/-- []byte(s) -/
theorem run_bytes_z (w : World) (B : Nat) (src dst e : TypeId) (s : ByteArray) (hs : P.underlying src = some .string) (hd : P.underlying dst = some (.slice e)) (he : P.underlying e = some (.int .u8)) (hB : B ≤ w.heap.size) (hl : s.size ≤ 8589934592) :
    ∃ v' w', (convert src dst (.string s)).run P w = .ok v' w' ∧ OwnZ w' B e v' (u8Vs s.data.toList) ∧ Keeps (fun _ => False) w w' := by
  have hr := run_bytes_of_string w src dst e s hs hd he
  have hge := grownCap_ge w s.size 0 e
  have hsz : (bytesRow s (grownCap w s.size 0 e)).size = grownCap w s.size 0 e := by
    unfold bytesRow
    have : s.data.size = s.size := rfl
    simp only [Array.size_append, Array.size_map, Array.size_replicate]
    omega
  have hls : (u8Vs s.data.toList).length = s.size := by rw [u8Vs_len]; simp
  refine ⟨_, _, hr, .inr ⟨w.heap.size, grownCap w s.size 0 e, _, _, by rw [hls], hB, heap_alloc_new w.drew _, .inr (Nat.le_refl _), by omega, by omega, grownCap_le_maxLen w s.size 0 e (by unfold maxLen; omega), fun j u hj => ?_⟩, (Keeps.refl _ w).drew.alloc _⟩
  have hjl : j < s.size := by rw [← hls]; exact (List.getElem?_eq_some_iff.1 hj).1
  unfold bytesRow
  rw [Array.getElem?_append_left (by simp; exact hjl)]
  unfold u8Vs at hj
  simpa using hj

end
end Go.Proofs.YtkmpdobojgiegaaGreatDoor
