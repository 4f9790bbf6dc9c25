/-
  wheelhouseref10.Same: whether two lists of texts are one; lists of texts that lie in a new block, or in a slice of the own.
-/
import Derived.Test.YtfbdpmeelejdhaaChecked
import Derived.Test.YtfbdpmeelejdhaaQGround
namespace Go.Proofs.Ytfbdpmeelejdhaa
open Go.RowKit

theorem take_snoc10 {l : List ByteArray} {i : Nat} {s : ByteArray} (h : l[i]? = some s) : l.take (i + 1) = l.take i ++ [s] := by rw [List.take_add_one, h]; rfl
theorem slat_at {w : World} {a : Option Addr} {n : Nat} {l : List ByteArray} (h : SlAt strR 1 w a n l) {i : Nat} {s : ByteArray} (hs : l[i]? = some s) : ∃ b off, a = some ⟨b, off, none⟩ ∧ w.cell? ⟨b, off + i, none⟩ = some (.string s) := by
  have hi : i < l.length := (List.getElem?_eq_some_iff.1 hs).1
  obtain ⟨b, off, ha, _, hc⟩ := h.2 (by rw [← h.1]; omega)
  exact ⟨b, off, ha, SlAt.str hc i s hs⟩
theorem slat_mk (w : World) (t : TypeId) (l : List ByteArray) : SlAt strR 1 (w.alloc (.cells (l.map Value.string).toArray t)) (some ⟨w.heap.size, 0, none⟩) l.length l := by
  refine ⟨rfl, fun _ => ⟨w.heap.size, 0, rfl, by simp, fun i x j v hx hv => ?_⟩⟩
  rw [(Blk.new w t (l.map Value.string).toArray).cell]
  match j, hv with
  | 0, hv =>
    simp [strR] at hv
    subst hv
    simp [hx]
  | j + 1, hv => simp [strR] at hv
theorem slat_own {w : World} {B : Nat} {e : TypeId} {a : Option Addr} {n c : Nat} {l : List ByteArray} (h : OwnL w B e (.slice a n c) (l.map Value.string)) : n = l.length ∧ SlAt strR 1 w a l.length l := by
  obtain ⟨a1, c1, hv, _, _, h1, h2⟩ := h.shape
  injection hv with e1 e2 e3
  subst e1
  rw [List.length_map] at e2 h1
  refine ⟨e2, rfl, fun hn => ?_⟩
  obtain ⟨g, ha, _, hlt⟩ := h1 hn
  refine ⟨g, 0, ha, hlt, fun i x j v hx hv => ?_⟩
  match j, hv with
  | 0, hv =>
    simp [strR] at hv
    subst hv
    have := (h2 g ha i (.string x) (by rw [List.getElem?_map, hx]; rfl)).1
    simpa using this
  | j + 1, hv => simp [strR] at hv
theorem toList_ne10 {s t : ByteArray} (h : ¬ s = t) : (s.toList == t.toList) = false := by
  rw [beq_eq_false_iff_ne]
  intro e
  rw [ByteArray.toList_eq, ByteArray.toList_eq] at e
  exact h (ba_ext e)
end Go.Proofs.Ytfbdpmeelejdhaa
