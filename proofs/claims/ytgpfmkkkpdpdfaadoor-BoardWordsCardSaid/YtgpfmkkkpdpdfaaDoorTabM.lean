/-
  Rows of texts: how they lie, and how they are read out of an argument; columns' widths, and lines, in plain words. No program in sight.
-/
import Derived.Test.YtgpfmkkkpdpdfaaDoorBrdD
import Derived.Test.YtgpfmkkkpdpdfaaDoorOwnT
namespace Go.Proofs.YtgpfmkkkpdpdfaaDoor
open Go.RowKit Go.ChangeShapes Go.WideShapes Go.Deep

/-- a slice value that holds the texts l -/
def StrsV (w : World) (v : Value) (l : List ByteArray) : Prop := ∃ a c, v = .slice a l.length c ∧ SlAt strR 1 w a l.length l
theorem StrsV.keeps {w w' : World} {v : Value} {l : List ByteArray} {S : Nat → Prop} (h : StrsV w v l) (k : Keeps S w w') (hS : ∀ i, i < w.heap.size → ¬ S i) : StrsV w' v l := by
  obtain ⟨a, c, hv, hs⟩ := h
  exact ⟨a, c, hv, hs.keeps k hS⟩
/-- rows of texts -/
def Rows2 (w : World) (a : Option Addr) (n : Nat) (L : List (List ByteArray)) : Prop :=
  L.length = n ∧ (0 < n → ∃ b off, a = some ⟨b, off, none⟩ ∧ b < w.heap.size ∧ ∀ (i : Nat) (l : List ByteArray), L[i]? = some l → ∃ v, w.cell? ⟨b, off + i, none⟩ = some v ∧ StrsV w v l)
theorem Rows2.keeps {w w' : World} {a : Option Addr} {n : Nat} {L : List (List ByteArray)} {S : Nat → Prop} (h : Rows2 w a n L) (k : Keeps S w w') (hS : ∀ i, i < w.heap.size → ¬ S i) : Rows2 w' a n L := by
  refine ⟨h.1, fun hn => ?_⟩
  obtain ⟨b, off, ha, hb, hc⟩ := h.2 hn
  refine ⟨b, off, ha, Nat.lt_of_lt_of_le hb k.size, fun i l hl => ?_⟩
  obtain ⟨v, h1, h2⟩ := hc i l hl
  refine ⟨v, ?_, h2.keeps k hS⟩
  rw [World.cell?_of_block (w := w) (k.block b hb (hS b hb))]
  exact h1

section
variable {H : Type} {enc : TypeId × Value → H} {P : Program} {w : World} {base : Nat} {spare : Nat → Bool} {held : Bool}
theorem strsV_of {t e : TypeId} {cs : List Value} {fuel : Nat} {y : DataW H × List MemPlace} (ht : P.underlying t = some (.slice e)) (he : P.underlying e = some .string) (hc : P.cellsOf e = 1)
    (h : DataW.trod enc P w base spare held fuel t cs = some y) : ∃ v l, cs = [v] ∧ StrsV w v l ∧ l.length ≤ maxLen ∧ ∀ s ∈ l, s.size ≤ maxLen := by
  have hh := h
  rcases open_slice ht h with ⟨hcs, _⟩ | ⟨a', len, cap, m, k, D, Pl, hcs, hb, hl, hm, hmm, hx, hi⟩
  · subst hcs
    exact ⟨_, [], rfl, ⟨none, 0, rfl, rfl, fun h => absurd h (by simp)⟩, by simp, by simp⟩
  · subst hcs
    obtain ⟨l, hl1, hl2⟩ := strs_of (a := some a') (n := len) (c := cap) (d := y.1) (ps := y.2) ht he hc ⟨fuel, hh⟩
    refine ⟨_, l, rfl, ⟨some a', cap, by rw [hl1.1], by rw [hl1.1]; exact hl1⟩, by rw [hl1.1]; omega, hl2⟩
theorem rows_of {t e s : TypeId} {a : Option Addr} {n c : Nat} {d : DataW H} {ps : List MemPlace} {f0 : Field} (ht : P.underlying t = some (.slice e)) (he : P.underlying e = some (.struct #[f0])) (hone : oneCellFields P #[f0] = true)
    (hc : P.cellsOf e = 1) (h0 : P.underlying f0.type = some (.slice s)) (hs : P.underlying s = some .string) (hcs : P.cellsOf s = 1)
    (h : DataW.Trod enc P w base spare held t (.slice a n c) d ps) : ∃ L : List (List ByteArray), Rows2 w a n L ∧ ∀ l ∈ L, l.length ≤ maxLen ∧ ∀ x ∈ l, x.size ≤ maxLen := by
  obtain ⟨fuel, hf⟩ := h
  rcases open_slice ht hf with ⟨hcs, _⟩ | ⟨a', len, cap, m, k, D, Pl, hcs, hb, hl, hm, hmm, hx, hi⟩
  · simp [Value.cells] at hcs
    obtain ⟨rfl, rfl, rfl⟩ := hcs
    exact ⟨[], ⟨rfl, fun h => absurd h (by omega)⟩, by simp⟩
  · simp [Value.cells] at hcs
    obtain ⟨rfl, rfl, rfl⟩ := hcs
    have hnm : n ≤ m := by rw [hmm]; split <;> omega
    obtain ⟨L, hlen, hq⟩ := list_pick (fun i l => (l.length ≤ maxLen ∧ ∀ x ∈ l, x.size ≤ maxLen) ∧ ∃ v, w.cell? (a'.add i) = some v ∧ StrsV w v l) n (fun i hin => by
      obtain ⟨cs', hc1, hd⟩ := hi i (by omega)
      rw [hc, Nat.mul_one] at hc1
      obtain ⟨_, hlen, hcell⟩ := World.cells?_some hc1
      obtain ⟨xs, kk, _, _, hlen2, hxl, hff⟩ := DataW.trod_struct he hd
      match cs', hlen with
      | [v0], _ =>
        obtain ⟨o0, k0⟩ := hone_of hone 0 f0 rfl
        have e0 := hff 0 f0 rfl
        rw [o0, k0] at e0
        simp only [List.drop_zero, List.take_succ_cons, List.take_zero] at e0
        have hxl : xs.length = 1 := hxl
        rw [List.getElem?_eq_getElem (by omega)] at e0
        obtain ⟨v, l, hv, h1, h2, h3⟩ := strsV_of h0 hs hcs e0
        injection hv with hv
        subst hv
        refine ⟨l, ⟨h2, h3⟩, v0, ?_, h1⟩
        have := hcell 0 (by omega)
        simpa [Addr.add] using this)
    refine ⟨L, ⟨hlen, fun hn => ?_⟩, fun l hl => ?_⟩
    · obtain ⟨v0, hc0, _⟩ := (hq 0 L[0] (List.getElem?_eq_getElem (by omega))).2
      obtain ⟨b, off, spot⟩ := a'
      have hspot : spot = none := by simpa [Addr.add] using World.cell?_spot hc0
      subst hspot
      refine ⟨b, off, rfl, by simpa [Addr.add] using block_lt_of_cell hc0, fun i l hl => ?_⟩
      have := (hq i l hl).2
      rw [add_plain] at this
      exact this
    · obtain ⟨i, hi', he⟩ := List.getElem_of_mem hl
      exact (hq i l (by rw [List.getElem?_eq_getElem hi', he])).1
end
end Go.Proofs.YtgpfmkkkpdpdfaaDoor
