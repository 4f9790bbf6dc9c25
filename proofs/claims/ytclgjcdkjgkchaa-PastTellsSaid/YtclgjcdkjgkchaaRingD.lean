/-
  The ring's exported calls, second part: Drop, Take, Text, At, and all of them for a ring that nobody made.
-/
import Derived.Test.YtclgjcdkjgkchaaRingC
namespace Go.Proofs.Ytclgjcdkjgkchaa
open Go.RowKit
section
variable (w : World) (g b m : Nat) (t : List UInt8) (gone : Nat)

theorem idrop_any (k : Int) (h : IsRing w g b m t gone) (hg : gone + t.length ≤ 4611686018427387904) :
    Calls Try.prog 18 #[.pointer (some ⟨g, 0, none⟩), .int .i64 k] w fun e w' => e = .returned (.int .i64 (min k.toNat t.length : Nat)) ∧ Keeps (fun k => k = g ∨ k = b) w w' ∧ IsRing w' g b m (t.drop k.toNat) (gone + min k.toNat t.length) := by
  obtain ⟨f, arr, h⟩ := h
  have ht : t.drop (min k.toNat t.length) = t.drop k.toNat := by
    by_cases hc : k.toNat ≤ t.length
    · congr 1; omega
    · rw [List.drop_eq_nil_of_le (by omega), List.drop_eq_nil_of_le (by omega)]
  rw [← ht]
  clear ht
  generalize hq : min k.toNat t.length = q at *
  have hq2 : q ≤ t.length := by omega
  have Hq := Lib.hid hq
  clear hq
  by_cases hc : q = 0
  · subst hc
    go_enter Try.func18, Try.ntmps18
    go_wp2_with (first | (go_at_call 38; go_must (refine (held_any _ _ _ _ _ _ _ _ _ h).mono ?_; rw [Hq.out]; rintro e w' ⟨rfl, n, rfl⟩)))
    go_ret
    exact ⟨rfl, (Keeps.refl _ _).drewN _, f, arr, h.drewN _⟩
  · have hp : 0 < q := by omega
    clear hc
    go_enter Try.func18, Try.ntmps18
    go_wp2_with (first | (go_at_call 38; go_must (refine (held_any _ _ _ _ _ _ _ _ _ h).mono ?_; rw [Hq.out]; rintro e w' ⟨rfl, n, rfl⟩)) | (go_at_call 37; go_must (refine (skip_any _ _ _ _ _ _ _ _ _ (h.drewN _) (by omega) (by omega)).mono ?_; rintro e w1 ⟨rfl, k1, r1⟩; have c3 := r1.top.cell 3; have hf := r1.top.frozen 3; simp at c3)))
    go_ret
    refine ⟨rfl, (k1.from_drewN.mono fun k _ h => .inl h).setCell (fun _ => .inl rfl) _, _, arr, ?_, ?_, r1.len, r1.pos, r1.small, r1.first, r1.fits, r1.text⟩
    · have := r1.top.set_ 3 (.int .i64 ((gone + q : Nat) : Int))
      simpa using this
    · exact r1.row.far (p := ⟨g, 3, none⟩) (by have := r1.top.ne_ r1.row (by decide); simpa using this.symm) _

theorem itext_any (h : IsRing w g b m t gone) :
    Calls Try.prog 20 #[.pointer (some ⟨g, 0, none⟩)] w fun e w' => e = .returned (.string (str t)) ∧ Keeps (fun _ => False) w w' := by
  have h' := h
  obtain ⟨f, arr, h⟩ := h
  go_enter Try.func20, Try.ntmps20
  go_wp2_with (first | (go_at_call 22; go_must (refine (len_yes _ _ _ _ _ _ _ _ h).mono ?_; rintro e w' ⟨rfl, n, rfl⟩)) | (go_at_call 17; go_must (refine (ipeek_any _ _ _ _ _ _ _ (h'.drewN _)).mono ?_; rintro e w1 ⟨rfl, k1⟩)))
  go_ret
  refine ⟨?_, k1.from_drewN⟩
  simp

theorem itake_any (k : Int) (h : IsRing w g b m t gone) (hg : gone + t.length ≤ 4611686018427387904) :
    Calls Try.prog 16 #[.pointer (some ⟨g, 0, none⟩), .int .i64 k] w fun e w' => e = .returned (.string (str (t.take k.toNat))) ∧ Keeps (fun k => k = g ∨ k = b) w w' ∧ IsRing w' g b m (t.drop k.toNat) (gone + min k.toNat t.length) := by
  go_enter Try.func16, Try.ntmps16
  go_wp2_with (first | (go_at_call 17; go_must (refine (ipeek_any _ _ _ _ _ _ _ h).mono ?_; rintro e w1 ⟨rfl, k1⟩; have h1 := h.keeps k1 id id)) | (go_at_call 18; go_must (refine (idrop_any _ _ _ _ _ _ _ h1 hg).mono ?_; rintro e w2 ⟨rfl, k2, r2⟩)))
  go_ret
  have e1 : (str (t.take k.toNat)).size = min k.toNat t.length := by rw [str_size, List.length_take]
  have e2 : (((str (t.take k.toNat)).size : Nat) : Int).toNat = min k.toNat t.length := by rw [e1]; rfl
  refine ⟨rfl, k1.none_.trans k2, ?_⟩
  rw [e2] at r2
  rw [show min (min k.toNat t.length) t.length = min k.toNat t.length by omega] at r2
  rwa [show t.drop (min k.toNat t.length) = t.drop k.toNat from by
    by_cases hc : k.toNat ≤ t.length
    · congr 1; omega
    · rw [List.drop_eq_nil_of_le (by omega), List.drop_eq_nil_of_le (by omega)]] at r2

theorem iat_any (k : Int) (h : IsRing w g b m t gone) :
    Calls Try.prog 23 #[.pointer (some ⟨g, 0, none⟩), .int .i64 k] w (Qt (.tuple #[.int .u8 (if 0 ≤ k then (t[k.toNat]?.getD 0).toNat else 0 : Nat), .bool (decide (0 ≤ k ∧ k < t.length))]) w) := by
  obtain ⟨f, arr, h⟩ := h
  by_cases hk : 0 ≤ k ∧ k < t.length
  · have hlt : k.toNat < t.length := by omega
    have := at_in w g b m f arr t gone k t[k.toNat] h hk.1 (List.getElem?_eq_getElem hlt)
    rw [decide_eq_true hk, if_pos hk.1, List.getElem?_eq_getElem hlt]
    exact this
  · have := at_out w g b m f arr t gone k h (by omega)
    rw [decide_eq_false hk]
    by_cases h0 : 0 ≤ k
    · rw [if_pos h0, List.getElem?_eq_none (by omega)]; exact this
    · rw [if_neg h0]; exact this

theorem iat_in (k : Int) (c : UInt8) (h : IsRing w g b m t gone) (h0 : 0 ≤ k) (hc : t[k.toNat]? = some c) : Calls Try.prog 23 #[.pointer (some ⟨g, 0, none⟩), .int .i64 k] w (Qt (.tuple #[.int .u8 (c.toNat : Int), .bool true]) w) := by
  obtain ⟨f, arr, h⟩ := h
  exact at_in w g b m f arr t gone k c h h0 hc
theorem iat_out (k : Int) (h : IsRing w g b m t gone) (hk : k < 0 ∨ t.length ≤ k) : Calls Try.prog 23 #[.pointer (some ⟨g, 0, none⟩), .int .i64 k] w (Qt (.tuple #[.int .u8 0, .bool false]) w) := by
  obtain ⟨f, arr, h⟩ := h
  exact at_out w g b m f arr t gone k h hk
theorem ilen_any (h : IsRing w g b m t gone) : Calls Try.prog 22 #[.pointer (some ⟨g, 0, none⟩)] w (Qt (.int .i64 t.length) w) := by
  obtain ⟨f, arr, h⟩ := h
  exact len_yes w g b m f arr t gone h
theorem iroom_any (h : IsRing w g b m t gone) : Calls Try.prog 24 #[.pointer (some ⟨g, 0, none⟩)] w (Qt (.int .i64 ((m : Int) - t.length)) w) := by
  obtain ⟨f, arr, h⟩ := h
  exact room_yes w g b m f arr t gone h
theorem igone_any (h : IsRing w g b m t gone) : Calls Try.prog 21 #[.pointer (some ⟨g, 0, none⟩)] w (Qt (.int .i64 gone) w) := by
  obtain ⟨f, arr, h⟩ := h
  exact gone_yes w g b m f arr t gone h
end

section
variable (w : World)
theorem put_nil (s : ByteArray) : Calls Try.prog 12 #[.pointer none, .string s] w (Qt (.bool false) w) := by
  go_enter Try.func12, Try.ntmps12
  go_wp2_with (go_at_call 35; refine (made_nil _).mono ?_; rintro e w' ⟨rfl, n, rfl⟩)
  go_ret
  exact Qt.of rfl
theorem force_nil (s : ByteArray) : Calls Try.prog 14 #[.pointer none, .string s] w (Qt (.int .i64 0) w) := by
  go_enter Try.func14, Try.ntmps14
  go_wp2_with (go_at_call 35; refine (made_nil _).mono ?_; rintro e w' ⟨rfl, n, rfl⟩)
  go_ret
  exact Qt.of rfl
theorem peek_nil (k : Int) : Calls Try.prog 17 #[.pointer none, .int .i64 k] w (Qt (.string (str [])) w) := by
  go_enter Try.func17, Try.ntmps17
  go_wp2_with (go_at_call 38; refine (held_nil _ _).mono ?_; rintro e w' ⟨rfl, n, rfl⟩)
  go_ret
  exact Qt.of rfl
theorem drop_nil (k : Int) : Calls Try.prog 18 #[.pointer none, .int .i64 k] w (Qt (.int .i64 0) w) := by
  go_enter Try.func18, Try.ntmps18
  go_wp2_with (go_at_call 38; refine (held_nil _ _).mono ?_; rintro e w' ⟨rfl, n, rfl⟩)
  go_ret
  exact Qt.of rfl
theorem take_nil (k : Int) : Calls Try.prog 16 #[.pointer none, .int .i64 k] w (Qt (.string (str [])) w) := by
  go_enter Try.func16, Try.ntmps16
  go_wp2_with (first | (go_at_call 17; refine (peek_nil _ _).mono ?_; rintro e w' ⟨rfl, n, rfl⟩) | (go_at_call 18; refine (drop_nil _ _).mono ?_; rintro e w' ⟨rfl, n, rfl⟩))
  go_ret
  exact Qt.of rfl
theorem text_nil : Calls Try.prog 20 #[.pointer none] w (Qt (.string (str [])) w) := by
  go_enter Try.func20, Try.ntmps20
  go_wp2_with (first | (go_at_call 22; refine (len_nil _).mono ?_; rintro e w' ⟨rfl, n, rfl⟩) | (go_at_call 17; refine (peek_nil _ _).mono ?_; rintro e w' ⟨rfl, n, rfl⟩))
  go_ret
  exact Qt.of rfl
theorem at_nil (k : Int) : Calls Try.prog 23 #[.pointer none, .int .i64 k] w (Qt (.tuple #[.int .u8 0, .bool false]) w) := by
  by_cases hk : k < 0
  · go_enter Try.func23, Try.ntmps23
    go_wp2_with (first | (go_at_call 22; refine (len_nil _).mono ?_; rintro e w' ⟨rfl, n, rfl⟩))
    go_ret2
    exact Qt.of0 rfl
  · have hk' : 0 ≤ k := by omega
    go_enter Try.func23, Try.ntmps23
    go_wp2_with (first | (go_at_call 22; refine (len_nil _).mono ?_; rintro e w' ⟨rfl, n, rfl⟩))
    go_ret2
    exact Qt.of rfl
end
end Go.Proofs.Ytclgjcdkjgkchaa
