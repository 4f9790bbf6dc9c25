/-
  The ring's readers: what Made, Len, Room, Gone and At of package ring hand back, for a ring that New made and for one that nobody made.
-/
import Derived.Test.YtcblaeleaebinaaChecked
import Derived.Test.YtcblaeleaebinaaBase
namespace Go.Proofs.Ytcblaeleaebinaa
open Go.RowKit

/-- a ring's memory: its struct at block g, its bytes arr at block b, the first one at place f; t is what is there, gone is how many went -/
structure RingAt (w : World) (g b m f : Nat) (arr t : List UInt8) (gone : Nat) : Prop where
  top : Blk w g 102 #[.slice (some ⟨b, 0, none⟩) m m, .int .i64 f, .int .i64 t.length, .int .i64 gone]
  row : Blk w b 5 (bv arr)
  len : arr.length = m
  pos : 0 < m
  small : m ≤ 1048576
  first : f < m
  fits : t.length ≤ m
  text : ∀ i, i < t.length → arr[(f + i) % m]? = t[i]?

theorem made_yes (w : World) (g b m f : Nat) (arr t : List UInt8) (gone : Nat) (h : RingAt w g b m f arr t gone) :
    Calls Try.prog 46 #[.pointer (some ⟨g, 0, none⟩)] w (Qt (.bool true) w) := by
  have c0 := h.top.cell 0
  simp at c0
  have hp : 0 < m := h.pos
  go_enter Try.func46, Try.ntmps46
  go_wp2
  all_goals go_ret
  exact ⟨rfl, 0, rfl⟩

theorem made_nil (w : World) :
    Calls Try.prog 46 #[.pointer none] w (Qt (.bool false) w) := by
  go_enter Try.func46, Try.ntmps46
  go_wp2
  all_goals go_ret
  exact ⟨rfl, 0, rfl⟩

theorem len_yes (w : World) (g b m f : Nat) (arr t : List UInt8) (gone : Nat) (h : RingAt w g b m f arr t gone) :
    Calls Try.prog 58 #[.pointer (some ⟨g, 0, none⟩)] w (Qt (.int .i64 t.length) w) := by
  have c2 := h.top.cell 2
  simp at c2
  go_enter Try.func58, Try.ntmps58
  go_wp2_with (go_at_call 46; refine (made_yes _ _ _ _ _ _ _ _ h).mono ?_; rintro e w' ⟨rfl, n, rfl⟩)
  go_ret
  exact ⟨rfl, _, rfl⟩

theorem len_nil (w : World) : Calls Try.prog 58 #[.pointer none] w (Qt (.int .i64 0) w) := by
  go_enter Try.func58, Try.ntmps58
  go_wp2_with (go_at_call 46; refine (made_nil _).mono ?_; rintro e w' ⟨rfl, n, rfl⟩)
  go_ret
  exact ⟨rfl, _, rfl⟩

theorem room_nil (w : World) : Calls Try.prog 47 #[.pointer none] w (Qt (.int .i64 0) w) := by
  go_enter Try.func47, Try.ntmps47
  go_wp2_with (go_at_call 46; refine (made_nil _).mono ?_; rintro e w' ⟨rfl, n, rfl⟩)
  go_ret
  exact ⟨rfl, _, rfl⟩

theorem room_yes (w : World) (g b m f : Nat) (arr t : List UInt8) (gone : Nat) (h : RingAt w g b m f arr t gone) :
    Calls Try.prog 47 #[.pointer (some ⟨g, 0, none⟩)] w (Qt (.int .i64 ((m : Int) - t.length)) w) := by
  have c0 := h.top.cell 0
  have c2 := h.top.cell 2
  simp at c0 c2
  have h1 := h.small
  have h2 := h.fits
  go_enter Try.func47, Try.ntmps47
  go_wp2_with (go_at_call 46; refine (made_yes _ _ _ _ _ _ _ _ h).mono ?_; rintro e w' ⟨rfl, n, rfl⟩)
  go_quiet (fail)
  go_wp2
  go_ret
  exact Qt.of2 rfl

theorem at_out (w : World) (g b m f : Nat) (arr t : List UInt8) (gone : Nat) (k : Int) (h : RingAt w g b m f arr t gone) (hk : k < 0 ∨ t.length ≤ k) :
    Calls Try.prog 52 #[.pointer (some ⟨g, 0, none⟩), .int .i64 k] w (Qt (.tuple #[.int .u8 0, .bool false]) w) := by
  rcases hk with hk | hk
  · go_enter Try.func52, Try.ntmps52
    go_wp2_with (go_at_call 58; refine (len_yes _ _ _ _ _ _ _ _ h).mono ?_; rintro e w' ⟨rfl, n, rfl⟩)
    go_ret2
    exact ⟨rfl, 0, rfl⟩
  · go_enter Try.func52, Try.ntmps52
    go_wp2_with (go_at_call 58; refine (len_yes _ _ _ _ _ _ _ _ h).mono ?_; rintro e w' ⟨rfl, n, rfl⟩)
    go_ret2
    exact ⟨rfl, _, rfl⟩

theorem at_nat (w : World) (g b m f : Nat) (arr t : List UInt8) (gone : Nat) (k : Nat) (h : RingAt w g b m f arr t gone) (hk : k < t.length) :
    Calls Try.prog 52 #[.pointer (some ⟨g, 0, none⟩), .int .i64 k] w (Qt (.tuple #[.int .u8 (t[k].toNat : Int), .bool true]) w) := by
  have c0 := h.top.cell 0
  have c1 := h.top.cell 1
  simp at c0 c1
  have h1 := h.small
  have h2 := h.fits
  have h3 := h.first
  have hlt := Nat.mod_lt (f + k) h.pos
  have hb := h.row.cell ((f + k) % m)
  rw [bv_get _ _ (by rw [h.len]; exact hlt)] at hb
  have ht := h.text k hk
  rw [List.getElem?_eq_getElem (by rw [h.len]; exact hlt), List.getElem?_eq_getElem hk] at ht
  injection ht with ht
  rw [ht] at hb
  clear ht
  have e0 : ((f : Int) + k) % m = ((f + k) % m : Nat) := by simp
  have e1 : 0 ≤ ((f : Int) + k) % m := by omega
  have e2 : ((f : Int) + k) % m < m := by omega
  have e4 : (((f : Int) + k) % m).toNat = (f + k) % m := by omega
  clear e0
  go_enter Try.func52, Try.ntmps52
  go_wp2_with (go_at_call 58; refine (len_yes _ _ _ _ _ _ _ _ h).mono ?_; rintro e w' ⟨rfl, n, rfl⟩)
  go_quiet (fail)
  go_wp2
  go_ret2
  exact Qt.of2 rfl

theorem at_in (w : World) (g b m f : Nat) (arr t : List UInt8) (gone : Nat) (k : Int) (c : UInt8) (h : RingAt w g b m f arr t gone) (h0 : 0 ≤ k) (hc : t[k.toNat]? = some c) :
    Calls Try.prog 52 #[.pointer (some ⟨g, 0, none⟩), .int .i64 k] w (Qt (.tuple #[.int .u8 (c.toNat : Int), .bool true]) w) := by
  obtain ⟨n, rfl⟩ := Int.eq_ofNat_of_zero_le h0
  obtain ⟨hlt, rfl⟩ := List.getElem?_eq_some_iff.1 hc
  exact at_nat w g b m f arr t gone n h hlt
end Go.Proofs.Ytcblaeleaebinaa
