/-
  The ring's inner writers: what put, skip and peek of its room do to its memory.
-/
import Derived.Test.YtcblaeleaebinaaRingA
namespace Go.Proofs.Ytcblaeleaebinaa
open Go.RowKit

set_option maxRecDepth 100000 in
theorem mod_two (f i m : Nat) (hf : f < m) (hi : i ≤ m) : (f + i) % m = if f + i < m then f + i else f + i - m := by
  by_cases h : f + i < m
  · rw [if_pos h, Nat.mod_eq_of_lt h]
  · rw [if_neg h, Nat.mod_eq_sub_mod (by omega), Nat.mod_eq_of_lt (by omega)]

set_option maxRecDepth 100000 in
/-- what put leaves: the bytes behind those that are there -/
theorem put_text (m f : Nat) (arr t s : List UInt8) (hlen : arr.length = m) (hf : f < m) (hfit : t.length + s.length ≤ m)
    (ht : ∀ i, i < t.length → arr[(f + i) % m]? = t[i]?) :
    ∀ i, i < (t ++ s).length →
      (splice (splice arr ((f + t.length) % m) (s.take (min s.length (m - (f + t.length) % m)))) 0 (s.drop (min s.length (m - (f + t.length) % m))))[(f + i) % m]? = (t ++ s)[i]? := by
  intro i hi
  simp only [List.length_append] at hi
  have ha := mod_two f t.length m hf (by omega)
  have hb := mod_two f i m hf (by omega)
  generalize (f + t.length) % m = at_ at *
  generalize hj : (f + i) % m = j at *
  have h1 : at_ < m := by split at ha <;> omega
  have h2 : j < m := by split at hb <;> omega
  generalize hn : min s.length (m - at_) = n
  have hl1 : (s.take n).length = n := by simp; omega
  have hl2 : (s.drop n).length = s.length - n := by simp
  have hg1 : at_ + (s.take n).length ≤ arr.length := by rw [hl1, hlen]; omega
  have hg2 : 0 + (s.drop n).length ≤ (splice arr at_ (s.take n)).length := by rw [splice_len _ _ _ hg1, hl2, hlen]; omega
  rw [splice_get _ _ _ hg2, splice_get _ _ _ hg1, hl1, hl2]
  by_cases hit : i < t.length
  · rw [List.getElem?_append_left hit, ← ht i hit, hj]
    rw [if_neg (by split at ha <;> split at hb <;> omega), if_neg (by split at ha <;> split at hb <;> omega)]
  · rw [List.getElem?_append_right (by omega)]
    by_cases hc : 0 ≤ j ∧ j < 0 + (s.length - n)
    · rw [if_pos hc, List.getElem?_drop]
      congr 1
      split at ha <;> split at hb <;> omega
    · rw [if_neg hc, if_pos (by split at ha <;> split at hb <;> omega), List.getElem?_take, if_pos (by split at ha <;> split at hb <;> omega)]
      congr 1
      split at ha <;> split at hb <;> omega

set_option maxRecDepth 100000 in
theorem skip_nat (w : World) (g b m f : Nat) (arr t : List UInt8) (gone k : Nat) (h : RingAt w g b m f arr t gone) (hk : k ≤ t.length) :
    Calls Try.prog 48 #[.pointer (some ⟨g, 0, none⟩), .int .i64 k] w fun e w' => e = .returned (.tuple #[]) ∧ Keeps (· = g) w w' ∧ RingAt w' g b m ((f + k) % m) arr (t.drop k) gone := by
  have c0 := h.top.cell 0
  have c1 := h.top.cell 1
  have c2 := h.top.cell 2
  have f1 := h.top.frozen 1
  have f2 := h.top.frozen 2
  simp at c0 c1 c2
  have h1 := h.small
  have h2 := h.fits
  have h3 := h.first
  have hm := h.pos
  go_enter Try.func48, Try.ntmps48
  go_wp2
  go_region
  go_wp2
  go_end0
  have hgb : g ≠ b := h.top.ne_ h.row (by decide)
  refine ⟨rfl, by (repeat (first | (with_reducible assumption) | (with_reducible exact Keeps.refl _ _) | refine Keeps.drew ?_ | refine Keeps.drewN ?_ _ | refine Keeps.setCell ?_ (by simp) _ | refine Keeps.setRow ?_ (by simp) _ | refine Keeps.alloc ?_ _)), ?_, ?_, h.len, h.pos, h.small, Nat.mod_lt _ h.pos, ?_, ?_⟩
  · have := ((h.top.set_ 1 (.int .i64 (((f + k) % m : Nat) : Int))).set_ 2 (.int .i64 (((t.drop k).length : Nat) : Int))).drew
    have e : (((t.drop k).length : Nat) : Int) = (t.length : Int) - k := by simp; omega
    rw [e] at this ⊢
    simpa using this
  · exact ((h.row.far (p := ⟨g, 1, none⟩) (by simpa using hgb.symm) _).far (p := ⟨g, 2, none⟩) (by simpa using hgb.symm) _).drew
  · simp; omega
  · intro i hi
    simp only [List.length_drop] at hi
    rw [List.getElem?_drop, ← h.text (k + i) (by omega), Nat.mod_add_mod, Nat.add_assoc]

set_option maxRecDepth 100000 in
theorem put_any (w : World) (g b m f : Nat) (arr t : List UInt8) (gone : Nat) (s : ByteArray) (h : RingAt w g b m f arr t gone) (hk : t.length + s.size ≤ m) :
    Calls Try.prog 49 #[.pointer (some ⟨g, 0, none⟩), .string s] w fun e w' => e = .returned (.tuple #[]) ∧ Keeps (fun k => k = g ∨ k = b) w w' ∧ ∃ arr', RingAt w' g b m f arr' (t ++ s.data.toList) gone := by
  have hgb : g ≠ b := h.top.ne_ h.row (by decide)
  have c0 := h.top.cell 0
  have c1 := h.top.cell 1
  have c2 := h.top.cell 2
  have f1 := h.top.frozen 1
  have f2 := h.top.frozen 2
  simp at c0 c1 c2
  have h1 := h.small
  have h2 := h.fits
  have h3 := h.first
  have hm := h.pos
  have hsl : s.data.toList.length = s.size := by simp
  have e0 : ((f : Int) + t.length) % m = ((f + t.length) % m : Nat) := by simp
  obtain ⟨q, hq⟩ : ∃ q, q = (f + t.length) % m := ⟨_, rfl⟩
  have hqm : q < m := by rw [hq]; exact Nat.mod_lt _ hm
  rw [← hq] at e0
  have hT := put_text m f arr t s.data.toList h.len h.first (by rw [hsl]; omega) h.text
  rw [hsl, ← hq] at hT
  generalize hn : min s.size (m - q) = n at *
  have hn1 : n ≤ s.size := by omega
  have hn2 : n ≤ m - q := by omega
  have Hn := Lib.hid hn
  clear hn
  generalize hl : s.data.toList = l at *
  have Hl := Lib.hid hl
  have Hz := Lib.hid hsl
  clear hl hsl
  have HT := Lib.hid hT
  clear hT hq
  go_enter Try.func49, Try.ntmps49
  go_wp2
  go_region
  go_wp2_with (with_reducible show wpList _ _ _ (⟨some 28, _, _, _, _, _⟩ :: _) _ _; refine wpList_copy_str rfl (.tmp 26) (.tmp 27) 55 9 rfl 5 Try.underlying55 (by kernel_rfl) _ _ _ s rfl rfl b q arr 5 h.row.drew (fun _ => rfl) (by rw [h.len]; omega) ?_; rw [Hn.out, Hl.out]; intro w2 r2; clear c0 c1 c2 f1 f2 e0; have T2 := r2.far h.top.drew hgb.symm; have R2 := r2.blk h.row.drew; have K2 := r2.keeps (Keeps.refl (fun k => k = g ∨ k = b) w).drew (fun _ => .inr rfl); clear r2; have c0 := T2.cell 0; have c2 := T2.cell 2; have f2 := T2.frozen 2; simp at c0 c2)
  have hl2 : (splice arr q (List.take n l)).length = m := by rw [splice_len _ _ _ (by rw [h.len]; simp; omega), h.len]
  generalize splice arr q (List.take n l) = arr2 at *
  go_still_tail 7, (by kernel_rfl)
  rw [drew_mk]
  go_wp2_with (with_reducible show wpList _ _ _ (⟨some 36, _, _, _, _, _⟩ :: _) _ _; go_must (refine wpList_copy_str rfl (.tmp 32) (.tmp 35) 55 9 rfl 5 Try.underlying55 (by kernel_rfl) _ _ _ (s.extract n s.size) rfl rfl b 0 arr2 5 R2.drew (fun _ => rfl) (by rw [ext_size]; omega) ?_; rw [ext_list, ext_size, Hl.out, show min (s.size - n) m = l.length - n from by rw [Hz.out]; omega, List.take_of_length_le (by simp)]; intro w3 r3; clear c0 c2 f2; have T3 := r3.far (w := w2.drew) T2.drew hgb.symm; have R3 := r3.blk (w := w2.drew) R2.drew; have K3 := r3.keeps (w := w2.drew) K2.drew (fun _ => .inr rfl); clear r3; have c0 := T3.cell 0; have c2 := T3.cell 2; have f2 := T3.frozen 2; simp at c0 c2))
  go_end0
  refine ⟨rfl, by revert K3; exact fun K3 => K3.setCell (fun _ => .inl rfl) _, splice arr2 0 (List.drop n l), ?_, ?_, ?_, h.pos, h.small, h.first, ?_, HT.out⟩
  · have := T3.set_ 2 (.int .i64 (((t ++ l).length : Nat) : Int))
    rw [List.length_append, Hz.out] at this ⊢
    simpa using this
  · exact R3.far (p := ⟨g, 2, none⟩) (by simpa using hgb.symm) _
  · rw [splice_len _ _ _ (by simp [Hz.out]; omega), hl2]
  · rw [List.length_append, Hz.out]; omega

theorem peek_text (m f n : Nat) (arr t : List UInt8) (hlen : arr.length = m) (hf : f < m) (hfit : t.length ≤ m) (hn : n ≤ t.length)
    (ht : ∀ i, i < t.length → arr[(f + i) % m]? = t[i]?) :
    splice (splice (List.replicate n 0) 0 ((arr.drop f).take (min n (m - f)))) (min n (m - f)) (arr.take (n - min n (m - f))) = t.take n := by
  generalize hk : min n (m - f) = k
  have hl1 : ((arr.drop f).take k).length = k := by simp; omega
  have hl2 : (arr.take (n - k)).length = n - k := by simp; omega
  have hg1 : 0 + ((arr.drop f).take k).length ≤ (List.replicate n (0 : UInt8)).length := by rw [hl1]; simp; omega
  have hg2 : k + (arr.take (n - k)).length ≤ (splice (List.replicate n (0 : UInt8)) 0 ((arr.drop f).take k)).length := by rw [splice_len _ _ _ hg1, hl2]; simp; omega
  apply List.ext_getElem?
  intro i
  rw [splice_get _ _ _ hg2, splice_get _ _ _ hg1, hl1, hl2]
  by_cases hi : i < n
  · have hb := mod_two f i m hf (by omega)
    have hr : (t.take n)[i]? = arr[(f + i) % m]? := by rw [List.getElem?_take, if_pos hi, ← ht i (by omega)]
    rw [hr]
    by_cases hc : k ≤ i
    · rw [if_pos ⟨hc, by omega⟩, List.getElem?_take, if_pos (by omega)]
      congr 1
      split at hb <;> omega
    · rw [if_neg (by omega), if_pos (by omega), List.getElem?_take, if_pos (by omega), List.getElem?_drop]
      congr 1
      split at hb <;> omega
  · rw [if_neg (by omega), if_neg (by omega), List.getElem?_eq_none (by simp; omega), List.getElem?_eq_none (by simp; omega)]

theorem skip_any (w : World) (g b m f : Nat) (arr t : List UInt8) (gone : Nat) (k : Int) (h : RingAt w g b m f arr t gone) (h0 : 0 ≤ k) (hk : k ≤ t.length) :
    Calls Try.prog 48 #[.pointer (some ⟨g, 0, none⟩), .int .i64 k] w fun e w' => e = .returned (.tuple #[]) ∧ Keeps (· = g) w w' ∧ RingAt w' g b m ((f + k.toNat) % m) arr (t.drop k.toNat) gone := by
  obtain ⟨n, rfl⟩ := Int.eq_ofNat_of_zero_le h0
  exact skip_nat w g b m f arr t gone n h (by omega)
end Go.Proofs.Ytcblaeleaebinaa
