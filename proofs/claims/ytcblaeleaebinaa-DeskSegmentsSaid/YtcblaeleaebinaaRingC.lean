/-
  The ring's exported calls: New, Put, Force, Peek, Drop, Take, Text, for a ring that New made and for one that nobody made.
-/
import Derived.Test.YtcblaeleaebinaaRingB
namespace Go.Proofs.Ytcblaeleaebinaa
open Go.RowKit

/-- block g is a ring for m bytes; t is what is there, gone is how many went; its bytes lie in block b -/
def IsRing (w : World) (g b m : Nat) (t : List UInt8) (gone : Nat) : Prop := ∃ f arr, RingAt w g b m f arr t gone

theorem RingAt.keeps {w w' : World} {g b m f : Nat} {arr t : List UInt8} {gone : Nat} {S : Nat → Prop} (h : RingAt w g b m f arr t gone) (k : Keeps S w w') (h1 : ¬ S g) (h2 : ¬ S b) : RingAt w' g b m f arr t gone :=
  ⟨h.top.keeps k h1, h.row.keeps k h2, h.len, h.pos, h.small, h.first, h.fits, h.text⟩
theorem RingAt.drewN {w : World} {g b m f : Nat} {arr t : List UInt8} {gone : Nat} (h : RingAt w g b m f arr t gone) (n : Nat) : RingAt (w.drewN n) g b m f arr t gone := h.keeps ((Keeps.refl (fun _ => False) w).drewN n) id id
theorem RingAt.drew {w : World} {g b m f : Nat} {arr t : List UInt8} {gone : Nat} (h : RingAt w g b m f arr t gone) : RingAt w.drew g b m f arr t gone := h.drewN 1
theorem IsRing.keeps {w w' : World} {g b m : Nat} {t : List UInt8} {gone : Nat} {S : Nat → Prop} (h : IsRing w g b m t gone) (k : Keeps S w w') (h1 : ¬ S g) (h2 : ¬ S b) : IsRing w' g b m t gone := by
  obtain ⟨f, arr, h⟩ := h
  exact ⟨f, arr, h.keeps k h1 h2⟩
theorem IsRing.drewN {w : World} {g b m : Nat} {t : List UInt8} {gone : Nat} (h : IsRing w g b m t gone) (n : Nat) : IsRing (w.drewN n) g b m t gone := by
  obtain ⟨f, arr, h⟩ := h
  exact ⟨f, arr, h.keeps ((Keeps.refl (fun _ => False) w).drewN n) id id⟩
theorem IsRing.lt {w : World} {g b m : Nat} {t : List UInt8} {gone : Nat} (h : IsRing w g b m t gone) : g < w.heap.size ∧ b < w.heap.size := by
  obtain ⟨f, arr, h⟩ := h
  exact ⟨h.top.lt, h.row.lt⟩
theorem IsRing.fits {w : World} {g b m : Nat} {t : List UInt8} {gone : Nat} (h : IsRing w g b m t gone) : t.length ≤ m ∧ 0 < m ∧ m ≤ 1048576 := by
  obtain ⟨f, arr, h⟩ := h
  exact ⟨h.fits, h.pos, h.small⟩

theorem new_bad (w : World) (k : Int) (hk : k < 1 ∨ 1048576 < k) : Calls Try.prog 30 #[.int .i64 k] w (Qt (.tuple #[.pointer none, .int .i64 2]) w) := by
  rcases hk with hk | hk
  · go_enter Try.func30, Try.ntmps30
    go_wp2
    go_ret2
    exact Qt.of0 rfl
  · go_enter Try.func30, Try.ntmps30
    go_wp2
    go_ret2
    exact Qt.of0 rfl

theorem new_ok (w : World) (k : Nat) (h1 : 1 ≤ k) (h2 : k ≤ 1048576) : Calls Try.prog 30 #[.int .i64 k] w fun e w' =>
    ∃ g b, e = .returned (.tuple #[.pointer (some ⟨g, 0, none⟩), .int .i64 0]) ∧ w.heap.size ≤ g ∧ w.heap.size ≤ b ∧ Keeps (fun _ => False) w w' ∧ IsRing w' g b k [] 0 := by
  go_enter Try.func30, Try.ntmps30
  go_wp2_with (with_reducible show wpList _ _ _ (⟨some 11, _, _, _, _, _⟩ :: _) _ _; go_must (refine wpList_make_bytes _ rfl (.tmp 10) (.tmp 10) 55 rfl 5 Try.underlying55 (by kernel_rfl) k k rfl rfl (Nat.le_refl _) (by omega) ?_; intro w2 m2; have O2 := m2.blk; have s2 := m2.size; have K2 := m2.keeps (Keeps.refl (fun _ => False) w); clear m2; have S2 := Lib.hid s2; clear s2))
  go_ret2
  refine ⟨w2.heap.size, w.heap.size, rfl, by rw [S2.out]; omega, Nat.le_refl _, K2.alloc _, 0, List.replicate k 0, Blk.new _ _ _, O2.alloc _, by simp, by omega, h2, by omega, by simp, ?_⟩
  intro i hi
  simp at hi

section
variable (w : World) (g b m : Nat) (t : List UInt8) (gone : Nat)

theorem force_end {w w1 w2 : World} {g b m f n : Nat} {arr t2 T : List UInt8} {gone lost : Nat} {x y : Int} (k1 : Keeps (· = g) (w.drewN n) w1) (k2 : Keeps (fun k => k = g ∨ k = b) w1.drew w2) (r2 : RingAt w2 g b m f arr t2 gone)
    (hx : x = lost) (hy : y = gone + lost) (hT : t2 = T) :
    Ending.returned (.int .i64 x) = .returned (.int .i64 (lost : Nat)) ∧ Keeps (fun k => k = g ∨ k = b) w (w2.setCell ⟨g, 3, none⟩ (.int .i64 y)) ∧ IsRing (w2.setCell ⟨g, 3, none⟩ (.int .i64 y)) g b m T (gone + lost) := by
  have hgb : g ≠ b := r2.top.ne_ r2.row (by decide)
  subst hT
  refine ⟨by rw [hx], ?_, f, arr, ?_, r2.row.far (p := ⟨g, 3, none⟩) (by simpa using hgb.symm) _, r2.len, r2.pos, r2.small, r2.first, r2.fits, r2.text⟩
  · exact ((k1.from_drewN.mono fun k _ h => .inl h).trans k2.from_drew).setCell (fun _ => .inl rfl) _
  · have := r2.top.set_ 3 (.int .i64 ((gone + lost : Nat) : Int))
    rw [hy]
    simpa using this

theorem drop_two (t s : List UInt8) (a b : Nat) (h : a = t.length ∨ b = 0) (h' : a ≤ t.length) : t.drop a ++ s.drop b = (t ++ s).drop (a + b) := by
  rw [List.drop_append]
  rcases h with rfl | rfl
  · rw [List.drop_length, List.drop_eq_nil_of_le (show t.length ≤ t.length + b from by omega)]
    congr 2; omega
  · rw [Nat.add_zero, show a - t.length = 0 by omega]

theorem force_any (s : ByteArray) (h : IsRing w g b m t gone) (hs : s.size ≤ maxLen) (hg : gone + s.size ≤ 4611686018427387904) :
    Calls Try.prog 32 #[.pointer (some ⟨g, 0, none⟩), .string s] w fun e w' => e = .returned (.int .i64 (t.length + s.size - m : Nat)) ∧ Keeps (fun k => k = g ∨ k = b) w w' ∧
      IsRing w' g b m ((t ++ s.data.toList).drop (t.length + s.size - m)) (gone + (t.length + s.size - m)) := by
  obtain ⟨f, arr, h⟩ := h
  unfold maxLen at hs
  have h1 := h.small
  have h2 := h.fits
  have h0 := h.pos
  have c2 := h.top.cell 2
  simp at c2
  have hgb : g ≠ b := h.top.ne_ h.row (by decide)
  have hsl : s.data.toList.length = s.size := by simp
  have hw0 : IntKind.i64.wrap 0 = 0 := by decide
  rcases (show t.length + s.size ≤ m ∨ (m < t.length + s.size ∧ s.size ≤ m) ∨ m < s.size from by omega) with hc | hc | hc
  · go_enter Try.func32, Try.ntmps32
    go_wp2_with (first | (go_at_call 46; refine (made_yes _ _ _ _ _ _ _ _ h).mono ?_; rintro e w' ⟨rfl, n, rfl⟩) | (go_at_call 47; refine (room_yes _ _ _ _ _ _ _ _ (h.drewN _)).mono ?_; rintro e w' ⟨rfl, n', rfl⟩) | (go_at_call 48; go_must (refine (skip_any _ _ _ _ _ _ _ _ _ (h.drewN _) (by omega) (by omega)).mono ?_; rintro e w1 ⟨rfl, k1, r1⟩)))
    go_region_with (go_at_call 49; go_must (refine (put_any _ _ _ _ _ _ _ _ _ r1.drew (by simp; omega)).mono ?_; rintro e w2 ⟨rfl, k2, arr2, r2⟩; have c3 := r2.top.cell 3; have hf := r2.top.frozen 3; simp at c3))
    go_wp2
    go_ret
    exact force_end k1 k2 r2 (by omega) (by omega) (by
      first | rw [ext_list] | rw [← List.drop_zero (l := s.data.toList)]
      refine (drop_two _ _ _ _ (by omega) (by omega)).trans ?_
      first | rfl | (rw [List.drop_zero]; congr 1; omega) | (congr 1; omega))
  · go_enter Try.func32, Try.ntmps32
    go_wp2_with (first | (go_at_call 46; refine (made_yes _ _ _ _ _ _ _ _ h).mono ?_; rintro e w' ⟨rfl, n, rfl⟩) | (go_at_call 47; refine (room_yes _ _ _ _ _ _ _ _ (h.drewN _)).mono ?_; rintro e w' ⟨rfl, n', rfl⟩) | (go_at_call 48; go_must (refine (skip_any _ _ _ _ _ _ _ _ _ (h.drewN _) (by omega) (by omega)).mono ?_; rintro e w1 ⟨rfl, k1, r1⟩)))
    go_region_with (go_at_call 49; go_must (refine (put_any _ _ _ _ _ _ _ _ _ r1.drew (by simp; omega)).mono ?_; rintro e w2 ⟨rfl, k2, arr2, r2⟩; have c3 := r2.top.cell 3; have hf := r2.top.frozen 3; simp at c3))
    go_wp2
    go_ret
    exact force_end k1 k2 r2 (by omega) (by omega) (by
      first | rw [ext_list] | rw [← List.drop_zero (l := s.data.toList)]
      refine (drop_two _ _ _ _ (by omega) (by omega)).trans ?_
      first | rfl | (rw [List.drop_zero]; congr 1; omega) | (congr 1; omega))
  · have w3 : IntKind.i64.wrap ((s.size : Int) - ((m : Int) - t.length) - t.length) = (s.size : Int) - ((m : Int) - t.length) - t.length := wrap_in (by omega) (by omega)
    have w4 : 0 ≤ (s.size : Int) - ((m : Int) - t.length) - t.length := by omega
    have w5 : (s.size : Int) - ((m : Int) - t.length) - t.length ≤ s.size := by omega
    have w6 : ((s.size : Int) - ((m : Int) - t.length) - t.length).toNat = s.size - m := by omega
    go_enter Try.func32, Try.ntmps32
    go_wp2_with (first | (go_at_call 46; refine (made_yes _ _ _ _ _ _ _ _ h).mono ?_; rintro e w' ⟨rfl, n, rfl⟩) | (go_at_call 47; refine (room_yes _ _ _ _ _ _ _ _ (h.drewN _)).mono ?_; rintro e w' ⟨rfl, n', rfl⟩) | (go_at_call 48; go_must (refine (skip_any _ _ _ _ _ _ _ _ _ (h.drewN _) (by omega) (by omega)).mono ?_; rintro e w1 ⟨rfl, k1, r1⟩)))
    go_region_with (go_at_call 49; go_must (refine (put_any _ _ _ _ _ _ _ _ _ r1.drew (by simp; omega)).mono ?_; rintro e w2 ⟨rfl, k2, arr2, r2⟩; have c3 := r2.top.cell 3; have hf := r2.top.frozen 3; simp at c3))
    go_wp2
    go_ret
    exact force_end k1 k2 r2 (by omega) (by omega) (by
      first | rw [ext_list] | rw [← List.drop_zero (l := s.data.toList)]
      refine (drop_two _ _ _ _ (by omega) (by omega)).trans ?_
      first | rfl | (rw [List.drop_zero]; congr 1; omega) | (congr 1; omega))

end
end Go.Proofs.Ytcblaeleaebinaa
