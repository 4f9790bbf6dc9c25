/-
  The ring's exported calls, second part: Drop, Take, Text, At, and all of them for a ring that nobody made.
-/
import Derived.Test.YtcblaeleaebinaaRingC
namespace Go.Proofs.Ytcblaeleaebinaa
open Go.RowKit
section
variable (w : World) (g b m : Nat) (t : List UInt8) (gone : Nat)

theorem iat_any (k : Int) (h : IsRing w g b m t gone) :
    Calls Try.prog 52 #[.pointer (some ⟨g, 0, none⟩), .int .i64 k] w (Qt (.tuple #[.int .u8 (if 0 ≤ k then (t[k.toNat]?.getD 0).toNat else 0 : Nat), .bool (decide (0 ≤ k ∧ k < t.length))]) w) := by
  obtain ⟨f, arr, h⟩ := h
  by_cases hk : 0 ≤ k ∧ k < t.length
  · have hlt : k.toNat < t.length := by omega
    have := at_in w g b m f arr t gone k t[k.toNat] h hk.1 (List.getElem?_eq_getElem hlt)
    rw [decide_eq_true hk, if_pos hk.1, List.getElem?_eq_getElem hlt]
    exact this
  · have := at_out w g b m f arr t gone k h (by omega)
    rw [decide_eq_false hk]
    by_cases h0 : 0 ≤ k
    · rw [if_pos h0, List.getElem?_eq_none (by omega)]; exact this
    · rw [if_neg h0]; exact this

theorem iat_in (k : Int) (c : UInt8) (h : IsRing w g b m t gone) (h0 : 0 ≤ k) (hc : t[k.toNat]? = some c) : Calls Try.prog 52 #[.pointer (some ⟨g, 0, none⟩), .int .i64 k] w (Qt (.tuple #[.int .u8 (c.toNat : Int), .bool true]) w) := by
  obtain ⟨f, arr, h⟩ := h
  exact at_in w g b m f arr t gone k c h h0 hc
theorem iat_out (k : Int) (h : IsRing w g b m t gone) (hk : k < 0 ∨ t.length ≤ k) : Calls Try.prog 52 #[.pointer (some ⟨g, 0, none⟩), .int .i64 k] w (Qt (.tuple #[.int .u8 0, .bool false]) w) := by
  obtain ⟨f, arr, h⟩ := h
  exact at_out w g b m f arr t gone k h hk
theorem ilen_any (h : IsRing w g b m t gone) : Calls Try.prog 58 #[.pointer (some ⟨g, 0, none⟩)] w (Qt (.int .i64 t.length) w) := by
  obtain ⟨f, arr, h⟩ := h
  exact len_yes w g b m f arr t gone h
theorem iroom_any (h : IsRing w g b m t gone) : Calls Try.prog 47 #[.pointer (some ⟨g, 0, none⟩)] w (Qt (.int .i64 ((m : Int) - t.length)) w) := by
  obtain ⟨f, arr, h⟩ := h
  exact room_yes w g b m f arr t gone h
end

section
variable (w : World)
theorem force_nil (s : ByteArray) : Calls Try.prog 32 #[.pointer none, .string s] w (Qt (.int .i64 0) w) := by
  go_enter Try.func32, Try.ntmps32
  go_wp2_with (go_at_call 46; refine (made_nil _).mono ?_; rintro e w' ⟨rfl, n, rfl⟩)
  go_ret
  exact Qt.of rfl
theorem at_nil (k : Int) : Calls Try.prog 52 #[.pointer none, .int .i64 k] w (Qt (.tuple #[.int .u8 0, .bool false]) w) := by
  by_cases hk : k < 0
  · go_enter Try.func52, Try.ntmps52
    go_wp2_with (first | (go_at_call 58; refine (len_nil _).mono ?_; rintro e w' ⟨rfl, n, rfl⟩))
    go_ret2
    exact Qt.of0 rfl
  · have hk' : 0 ≤ k := by omega
    go_enter Try.func52, Try.ntmps52
    go_wp2_with (first | (go_at_call 58; refine (len_nil _).mono ?_; rintro e w' ⟨rfl, n, rfl⟩))
    go_ret2
    exact Qt.of rfl
end
end Go.Proofs.Ytcblaeleaebinaa
