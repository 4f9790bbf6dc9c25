/-
  Own slices, the frame by types: bytes as values, an iterator's block, growth seen through a new block.
-/
import Derived.Test.YtemjbblehiaobaaDoorOwnS
namespace Go.Proofs.YtemjbblehiaobaaDoor
open Go.RowKit

/-- bytes as values -/
def u8Vs (l : List UInt8) : List Value := l.map fun c => Value.int .u8 c.toNat
theorem u8Vs_len (l : List UInt8) : (u8Vs l).length = l.length := by simp [u8Vs]
theorem OwnL.of1 (w : World) (e : TypeId) (u : Value) : OwnL (w.alloc (.cells #[u] e)) w.heap.size e (.slice (some ⟨w.heap.size, 0, none⟩) 1 1) [u] :=
  ⟨rfl, .inr ⟨w.heap.size, 1, #[u], rfl, Nat.le_refl _, heap_alloc_new w _, Nat.le_refl _, by decide, rfl, rfl⟩⟩
theorem OwnL.keepsT {w w' : World} {B : Nat} {e : TypeId} {v : Value} {vs : List Value} {S : Nat → Prop} (h : OwnL w B e v vs) (k : Keeps S w w') (hS : ∀ i, B ≤ i → (∃ cs, Blk w i e cs) → ¬ S i) : OwnL w' B e v vs := by
  refine ⟨h.1, ?_⟩
  rcases h.2 with h2 | ⟨g, cap, cur, hv, hg, hh, r⟩
  · exact .inl h2
  · have hlt : g < w.heap.size := by
      rcases Nat.lt_or_ge g w.heap.size with hlt | hge
      · exact hlt
      · rw [Array.getElem?_eq_none hge] at hh; cases hh
    exact .inr ⟨g, cap, cur, hv, hg, (k.block g hlt (hS g hg ⟨_, hh⟩)).trans hh, r⟩
theorem iter_noBlk {w : World} {k : Nat} {s : ByteArray} {p : Nat} (h : w.heap[k]? = some (.stringIter s p)) {e : TypeId} : ¬ ∃ cs, Blk w k e cs := by
  rintro ⟨cs, hb⟩; unfold Blk at hb; rw [h] at hb; cases hb
theorem iterPos_of {w : World} {k : Nat} {s : ByteArray} {p : Nat} (h : w.heap[k]? = some (.stringIter s p)) : w.iterPos k = p := by simp [World.iterPos, h]
/-- moving an iterator on changes its block alone -/
theorem Keeps.iterAt {w : World} (k : Nat) (s : ByteArray) (p : Nat) : Keeps (fun i => i = k) w (w.iterAt k s p) :=
  ⟨rfl, rfl, rfl, by rw [Lib.iterAt_size]; exact Nat.le_refl _, fun i _ hn => Lib.iterAt_other w k i s p hn⟩

/-- a new block, and then a change of rows of a type that lie above B: seen from ahead of the block -/
theorem grow_alloc {B : Nat} {e : TypeId} {w w' : World} (o : Obj) (k : Keeps (fun i => B ≤ i ∧ ∃ cs, Blk (w.alloc o) i e cs) (w.alloc o) w') : Keeps (fun i => B ≤ i ∧ ∃ cs, Blk w i e cs) w w' :=
  Keeps.and_ ((Keeps.refl _ w).alloc o) k fun i hi ⟨h1, cs, h2⟩ => ⟨h1, cs, (Below.heap_alloc w o i hi).symm.trans h2⟩
theorem grow_trans {B : Nat} {e : TypeId} {a b c : World} (h : Keeps (fun i => B ≤ i ∧ ∃ cs, Blk a i e cs) a b) (k : Keeps (fun i => B ≤ i ∧ ∃ cs, Blk b i e cs) b c) : Keeps (fun i => B ≤ i ∧ ∃ cs, Blk a i e cs) a c :=
  ⟨k.os.trans h.os, k.tape.trans h.tape, k.output.trans h.output, Nat.le_trans h.size k.size, fun i hi hn => by
    have hb := h.block i hi hn
    exact (k.block i (Nat.lt_of_lt_of_le hi h.size) (fun ⟨h1, cs, h2⟩ => hn ⟨h1, cs, hb.symm.trans h2⟩)).trans hb⟩
theorem OwnL.sl' {w : World} {B : Nat} {e : TypeId} {v : Value} {vs : List Value} (h : OwnL w B e v vs) : ∃ a cap, v = .slice a vs.length cap := by
  obtain ⟨a, cap, hv, -⟩ := h.shape; exact ⟨a, cap, hv⟩
end Go.Proofs.YtemjbblehiaobaaDoor
