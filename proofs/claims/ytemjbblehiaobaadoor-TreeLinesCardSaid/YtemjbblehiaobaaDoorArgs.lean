/-
  Slices among the arguments, opened to lists: where each element's cells lie. No function of the program in sight.
-/
import Derived.Test.YtemjbblehiaobaaDoorBase
import Derived.ProofKit
import Derived.Deep.Slices
import Derived.Deep.Fields
namespace Go.Proofs.YtemjbblehiaobaaDoor
open Go.RowKit Go.ChangeShapes Go.WideShapes Go.Deep

/-- a slice's n elements as a list l: element x lies in the cells R x, one behind the other -/
def SlAt {α : Type} (R : α → List Value) (size : Nat) (w : World) (a : Option Addr) (n : Nat) (l : List α) : Prop :=
  l.length = n ∧ (0 < n → ∃ b off, a = some ⟨b, off, none⟩ ∧ b < w.heap.size ∧ ∀ (i : Nat) (x : α) (j : Nat) (v : Value), l[i]? = some x → (R x)[j]? = some v → w.cell? ⟨b, off + i * size + j, none⟩ = some v)

theorem SlAt.keeps {α : Type} {R : α → List Value} {size : Nat} {w w' : World} {a : Option Addr} {n : Nat} {l : List α} {S : Nat → Prop} (h : SlAt R size w a n l) (k : Keeps S w w') (hS : ∀ i, i < w.heap.size → ¬ S i) : SlAt R size w' a n l := by
  refine ⟨h.1, fun hn => ?_⟩
  obtain ⟨b, off, ha, hb, hc⟩ := h.2 hn
  refine ⟨b, off, ha, Nat.lt_of_lt_of_le hb k.size, fun i x j v hx hv => ?_⟩
  rw [World.cell?_of_block (w := w) (k.block b hb (hS b hb))]
  exact hc i x j v hx hv

section
variable {H : Type} {enc : TypeId × Value → H} {P : Program} {w : World} {base : Nat} {spare : Nat → Bool} {held : Bool}

theorem add_plain (b off k : Nat) : (⟨b, off, none⟩ : Addr).add k = ⟨b, off + k, none⟩ := by
  unfold Addr.add
  split <;> simp_all

theorem list_pick {α : Type} (Q : Nat → α → Prop) : ∀ n : Nat, (∀ i, i < n → ∃ x, Q i x) → ∃ l : List α, l.length = n ∧ ∀ i x, l[i]? = some x → Q i x
  | 0, _ => ⟨[], rfl, fun i x h => by simp at h⟩
  | n + 1, h => by
    obtain ⟨l, hl, hq⟩ := list_pick Q n (fun i hi => h i (by omega))
    obtain ⟨x, hx⟩ := h n (by omega)
    refine ⟨l ++ [x], by simp [hl], fun i y hy => ?_⟩
    rcases Nat.lt_or_ge i n with hi | hi
    · rw [List.getElem?_append_left (by omega)] at hy
      exact hq i y hy
    · rw [List.getElem?_append_right (by omega)] at hy
      have h0 : i - l.length = 0 := by
        rcases Nat.eq_zero_or_pos (i - l.length) with h0 | h0
        · exact h0
        · rw [List.getElem?_eq_none (by simp; omega)] at hy; cases hy
      rw [h0] at hy
      simp at hy
      subst hy
      have : i = n := by omega
      subst this
      exact hx

theorem sl_of {α : Type} (R : α → List Value) (good : α → Prop) (size : Nat) {t e : TypeId} {a : Option Addr} {n c : Nat} {d : DataW H} {ps : List MemPlace} (ht : P.underlying t = some (.slice e)) (hsz : P.cellsOf e = size) (hpos : 0 < size)
    (hR : ∀ x, (R x).length = size) (hel : ∀ fuel cs y, DataW.trod enc P w base spare held fuel e cs = some y → ∃ x, cs = R x ∧ good x)
    (h : DataW.Trod enc P w base spare held t (.slice a n c) d ps) : ∃ l : List α, SlAt R size w a n l ∧ ∀ x ∈ l, good x := by
  obtain ⟨fuel, hf⟩ := h
  rcases open_slice ht hf with ⟨hcs, _⟩ | ⟨a', len, cap, m, k, D, Pl, hcs, hb, hl, hm, hmm, hx, hi⟩
  · simp [Value.cells] at hcs
    obtain ⟨rfl, rfl, rfl⟩ := hcs
    exact ⟨[], ⟨rfl, fun h => absurd h (by omega)⟩, by simp⟩
  · simp [Value.cells] at hcs
    obtain ⟨rfl, rfl, rfl⟩ := hcs
    have hnm : n ≤ m := by rw [hmm]; split <;> omega
    obtain ⟨l, hlen, hq⟩ := list_pick (fun i x => good x ∧ ∀ j v, (R x)[j]? = some v → w.cell? ((a'.add (i * size)).add j) = some v) n (fun i hin => by
      obtain ⟨cs', hc, hd⟩ := hi i (by omega)
      obtain ⟨x, rfl, hg⟩ := hel _ _ _ hd
      obtain ⟨_, _, hcell⟩ := World.cells?_some hc
      refine ⟨x, hg, fun j v hv => ?_⟩
      have hj : j < size := by rw [← hR x]; exact (List.getElem?_eq_some_iff.1 hv).1
      rw [hsz] at hcell
      rw [hcell j hj, hv])
    refine ⟨l, ⟨hlen, fun hn => ?_⟩, fun x hx => ?_⟩
    · have h0 : 0 < l.length := by omega
      have hx0 := hq 0 l[0] (List.getElem?_eq_getElem h0)
      have hv0 : 0 < (R l[0]).length := by rw [hR]; exact hpos
      have hc0 := hx0.2 0 _ (List.getElem?_eq_getElem hv0)
      obtain ⟨b, off, spot⟩ := a'
      have hspot : spot = none := by simpa [Addr.add] using World.cell?_spot hc0
      subst hspot
      refine ⟨b, off, rfl, by simpa [Addr.add] using block_lt_of_cell hc0, fun i x j v hx hv => ?_⟩
      have := (hq i x hx).2 j v hv
      rw [add_add, add_plain, ← Nat.add_assoc] at this
      exact this
    · obtain ⟨i, hi', he⟩ := List.getElem_of_mem hx
      exact (hq i x (by rw [List.getElem?_eq_getElem hi', he])).1

/-- a slice of strings -/
def strR (s : ByteArray) : List Value := [.string s]
theorem strs_of {t e : TypeId} {a : Option Addr} {n c : Nat} {d : DataW H} {ps : List MemPlace} (ht : P.underlying t = some (.slice e)) (he : P.underlying e = some .string) (hc : P.cellsOf e = 1)
    (h : DataW.Trod enc P w base spare held t (.slice a n c) d ps) : ∃ l : List ByteArray, SlAt strR 1 w a n l ∧ ∀ s ∈ l, s.size ≤ maxLen :=
  sl_of strR (fun s => s.size ≤ maxLen) 1 ht hc (by omega) (fun _ => rfl) (fun fuel cs y hd => by
    obtain ⟨s, hcs, _, hs⟩ := DataW.trod_string he hd
    exact ⟨s, hcs, hs⟩) h
end

theorem SlAt.str {w : World} {b off : Nat} {l : List ByteArray} (hc : ∀ (i : Nat) (x : ByteArray) (j : Nat) (v : Value), l[i]? = some x → (strR x)[j]? = some v → w.cell? ⟨b, off + i * 1 + j, none⟩ = some v) (i : Nat) (s : ByteArray) (hi : l[i]? = some s) : w.cell? ⟨b, off + i, none⟩ = some (.string s) := by
  have := hc i s 0 _ hi rfl
  simpa using this
end Go.Proofs.YtemjbblehiaobaaDoor
