/-
  'same' of the ring's statements: a ring that holds what the document's holds is told to be the same.
-/
import Derived.Test.YtclgjcdkjgkchaaRingD
import Derived.Test.YtclgjcdkjgkchaaRef04
namespace Go.Proofs.Ytclgjcdkjgkchaa
open Go.RowKit

set_option maxRecDepth 100000 in
theorem same_in (w : World) (g b m gone : Nat) (a : ByteArray) (n : Nat) (h : IsRing w g b m (a.data.toList.drop gone) gone) (hg : gone ≤ a.size) (hm : a.size ≤ 1099511627776) (hn : n < a.size - gone) :
    Calls Try.prog 19 #[.pointer (some ⟨g, 0, none⟩), .agg #[.string a, .int .i64 gone, .int .i64 m], .int .i64 n] w fun e w' => e = .returned (.bool true) ∧ Keeps (fun _ => False) w w' := by
  have hT := h.fits
  have hl : (a.data.toList.drop gone).length = a.size - gone := by simp
  have hgl := h.lt
  go_enter Try.func19, Try.ntmps19
  go_wp2_with fail
  refine (rtext_any _ _ _ _ hg (by unfold maxLen; omega)).mono ?_
  rintro e w1 ⟨rfl, k1⟩
  have K1 := k1
  have B1 := (Blk.new w 29 #[.string a, .int .i64 gone, .int .i64 m]).keeps k1 id
  have R1 := (h.keeps ((Keeps.refl (fun _ => False) w).alloc _) id id).keeps k1 id id
  have hd : n < (a.extract gone a.size).size := by rw [ext_size]; omega
  obtain ⟨c, hc⟩ : ∃ c, (a.extract gone a.size)[n] = c := ⟨_, rfl⟩
  have hc2 : (a.data.toList.drop gone)[(n : Int).toNat]? = some c := by
    rw [← ext_list, ← hc, Int.toNat_natCast, List.getElem?_eq_getElem (by simpa using hd)]
    rfl
  have hs : str (a.data.toList.drop gone) = a.extract gone a.size := by rw [← ext_list]; rfl
  have HS := Lib.hid hs
  have HC := Lib.hid hc2
  have hlen : ((a.data.toList.drop gone).length : Int) = ((a.size - gone : Nat) : Int) := by rw [hl]
  have HL := Lib.hid hlen
  have hwm : IntKind.i64.wrap ((m : Int) - ((a.size - gone : Nat) : Int)) = (m : Int) - ((a.size - gone : Nat) : Int) := wrap_in (by omega) (by omega)
  clear hs hc2 hlen hl
  go_wp2_with fail
  refine (iat_in _ g b m _ gone n c R1 (by omega) HC.out).mono ?_
  rintro e w2 ⟨rfl, q, rfl⟩
  go_wp2_with fail
  obtain ⟨c0, c1, c2⟩ := B1.cells3
  go_region_held3 (fun w' => w'.cell? ⟨w.heap.size, 1, none⟩ = some (.int .i64 gone) ∧ w'.cell? ⟨w.heap.size, 2, none⟩ = some (.int .i64 m) ∧ Keeps (fun _ => False) w1 w')
    ((first | exact ⟨c1, c2, ((Keeps.refl _ _).drewN _).drew⟩ | (have bb := (B1.keeps kk id).cells3; exact ⟨bb.2.1, bb.2.2, kk⟩)))
    (first
      | (go_at_call 20; rename_i hh _ _; have hk := hh.2.2; refine (itext_any _ g b m _ _ (R1.keeps hk id id)).mono ?_; rw [HS.out]; rintro e w3 ⟨rfl, k3⟩; have kk := hk.trans k3)
      | (go_at_call 22; rename_i hh _ _; have hk := hh.2.2; refine (Qt.k (ilen_any _ g b m _ _ (R1.keeps hk id id))).mono ?_; rw [HL.out]; rintro e w3 ⟨rfl, k3⟩; have kk := hk.trans k3)
      | (go_at_call 24; rename_i hh _ _; have hk := hh.2.2; refine (Qt.k (iroom_any _ g b m _ _ (R1.keeps hk id id))).mono ?_; rw [HL.out]; rintro e w3 ⟨rfl, k3⟩; have kk := hk.trans k3)
      | (go_at_call 21; rename_i hh _ _; have hk := hh.2.2; refine (Qt.k (igone_any _ g b m _ _ (R1.keeps hk id id))).mono ?_; rintro e w3 ⟨rfl, k3⟩; have kk := hk.trans k3))
  rename_i hh
  have kk := hh.2.2
  clear hh
  go_wp2
  go_ret
  exact ⟨rfl, ((Keeps.refl _ _).alloc _).trans (k1.trans kk)⟩
set_option maxRecDepth 100000 in
theorem same_neg (w : World) (g b m gone : Nat) (a : ByteArray) (n : Int) (h : IsRing w g b m (a.data.toList.drop gone) gone) (hg : gone ≤ a.size) (hm : a.size ≤ 1099511627776) (hn : n < 0) :
    Calls Try.prog 19 #[.pointer (some ⟨g, 0, none⟩), .agg #[.string a, .int .i64 gone, .int .i64 m], .int .i64 n] w fun e w' => e = .returned (.bool true) ∧ Keeps (fun _ => False) w w' := by
  have hT := h.fits
  have hl : (a.data.toList.drop gone).length = a.size - gone := by simp
  have hgl := h.lt
  go_enter Try.func19, Try.ntmps19
  go_wp2_with fail
  refine (rtext_any _ _ _ _ hg (by unfold maxLen; omega)).mono ?_
  rintro e w1 ⟨rfl, k1⟩
  have K1 := k1
  have B1 := (Blk.new w 29 #[.string a, .int .i64 gone, .int .i64 m]).keeps k1 id
  have R1 := (h.keeps ((Keeps.refl (fun _ => False) w).alloc _) id id).keeps k1 id id
  have hs : str (a.data.toList.drop gone) = a.extract gone a.size := by rw [← ext_list]; rfl
  have HS := Lib.hid hs
  have hlen : ((a.data.toList.drop gone).length : Int) = ((a.size - gone : Nat) : Int) := by rw [hl]
  have HL := Lib.hid hlen
  have hwm : IntKind.i64.wrap ((m : Int) - ((a.size - gone : Nat) : Int)) = (m : Int) - ((a.size - gone : Nat) : Int) := wrap_in (by omega) (by omega)
  clear hs hlen hl
  go_wp2_with fail
  refine (iat_out _ g b m _ gone n R1 (by rw [HL.out]; omega)).mono ?_
  rintro e w2 ⟨rfl, q, rfl⟩
  go_wp2_with fail
  obtain ⟨c0, c1, c2⟩ := B1.cells3
  go_region_held3 (fun w' => w'.cell? ⟨w.heap.size, 1, none⟩ = some (.int .i64 gone) ∧ w'.cell? ⟨w.heap.size, 2, none⟩ = some (.int .i64 m) ∧ Keeps (fun _ => False) w1 w')
    ((first | exact ⟨c1, c2, ((Keeps.refl _ _).drewN _).drew⟩ | (have bb := (B1.keeps kk id).cells3; exact ⟨bb.2.1, bb.2.2, kk⟩)))
    (first
      | (go_at_call 20; rename_i hh _ _; have hk := hh.2.2; refine (itext_any _ g b m _ _ (R1.keeps hk id id)).mono ?_; rw [HS.out]; rintro e w3 ⟨rfl, k3⟩; have kk := hk.trans k3)
      | (go_at_call 22; rename_i hh _ _; have hk := hh.2.2; refine (Qt.k (ilen_any _ g b m _ _ (R1.keeps hk id id))).mono ?_; rw [HL.out]; rintro e w3 ⟨rfl, k3⟩; have kk := hk.trans k3)
      | (go_at_call 24; rename_i hh _ _; have hk := hh.2.2; refine (Qt.k (iroom_any _ g b m _ _ (R1.keeps hk id id))).mono ?_; rw [HL.out]; rintro e w3 ⟨rfl, k3⟩; have kk := hk.trans k3)
      | (go_at_call 21; rename_i hh _ _; have hk := hh.2.2; refine (Qt.k (igone_any _ g b m _ _ (R1.keeps hk id id))).mono ?_; rintro e w3 ⟨rfl, k3⟩; have kk := hk.trans k3))
  rename_i hh
  have kk := hh.2.2
  clear hh
  go_wp2
  go_ret
  exact ⟨rfl, ((Keeps.refl _ _).alloc _).trans (k1.trans kk)⟩
set_option maxRecDepth 100000 in
theorem same_far (w : World) (g b m gone : Nat) (a : ByteArray) (n : Int) (h : IsRing w g b m (a.data.toList.drop gone) gone) (hg : gone ≤ a.size) (hm : a.size ≤ 1099511627776) (hn : (a.size - gone : Nat) ≤ n) :
    Calls Try.prog 19 #[.pointer (some ⟨g, 0, none⟩), .agg #[.string a, .int .i64 gone, .int .i64 m], .int .i64 n] w fun e w' => e = .returned (.bool true) ∧ Keeps (fun _ => False) w w' := by
  have hT := h.fits
  have hn0 : 0 ≤ n := by omega
  have hl : (a.data.toList.drop gone).length = a.size - gone := by simp
  have hgl := h.lt
  go_enter Try.func19, Try.ntmps19
  go_wp2_with fail
  refine (rtext_any _ _ _ _ hg (by unfold maxLen; omega)).mono ?_
  rintro e w1 ⟨rfl, k1⟩
  have K1 := k1
  have B1 := (Blk.new w 29 #[.string a, .int .i64 gone, .int .i64 m]).keeps k1 id
  have R1 := (h.keeps ((Keeps.refl (fun _ => False) w).alloc _) id id).keeps k1 id id
  have hs : str (a.data.toList.drop gone) = a.extract gone a.size := by rw [← ext_list]; rfl
  have HS := Lib.hid hs
  have hlen : ((a.data.toList.drop gone).length : Int) = ((a.size - gone : Nat) : Int) := by rw [hl]
  have HL := Lib.hid hlen
  have hwm : IntKind.i64.wrap ((m : Int) - ((a.size - gone : Nat) : Int)) = (m : Int) - ((a.size - gone : Nat) : Int) := wrap_in (by omega) (by omega)
  clear hs hlen hl
  go_wp2_with fail
  refine (iat_out _ g b m _ gone n R1 (by rw [HL.out]; omega)).mono ?_
  rintro e w2 ⟨rfl, q, rfl⟩
  go_wp2_with fail
  obtain ⟨c0, c1, c2⟩ := B1.cells3
  go_region_held3 (fun w' => w'.cell? ⟨w.heap.size, 1, none⟩ = some (.int .i64 gone) ∧ w'.cell? ⟨w.heap.size, 2, none⟩ = some (.int .i64 m) ∧ Keeps (fun _ => False) w1 w')
    ((first | exact ⟨c1, c2, ((Keeps.refl _ _).drewN _).drew⟩ | (have bb := (B1.keeps kk id).cells3; exact ⟨bb.2.1, bb.2.2, kk⟩)))
    (first
      | (go_at_call 20; rename_i hh _ _; have hk := hh.2.2; refine (itext_any _ g b m _ _ (R1.keeps hk id id)).mono ?_; rw [HS.out]; rintro e w3 ⟨rfl, k3⟩; have kk := hk.trans k3)
      | (go_at_call 22; rename_i hh _ _; have hk := hh.2.2; refine (Qt.k (ilen_any _ g b m _ _ (R1.keeps hk id id))).mono ?_; rw [HL.out]; rintro e w3 ⟨rfl, k3⟩; have kk := hk.trans k3)
      | (go_at_call 24; rename_i hh _ _; have hk := hh.2.2; refine (Qt.k (iroom_any _ g b m _ _ (R1.keeps hk id id))).mono ?_; rw [HL.out]; rintro e w3 ⟨rfl, k3⟩; have kk := hk.trans k3)
      | (go_at_call 21; rename_i hh _ _; have hk := hh.2.2; refine (Qt.k (igone_any _ g b m _ _ (R1.keeps hk id id))).mono ?_; rintro e w3 ⟨rfl, k3⟩; have kk := hk.trans k3))
  rename_i hh
  have kk := hh.2.2
  clear hh
  go_wp2
  go_ret
  exact ⟨rfl, ((Keeps.refl _ _).alloc _).trans (k1.trans kk)⟩

theorem same_any (w : World) (g b m gone : Nat) (a : ByteArray) (n : Int) (h : IsRing w g b m (a.data.toList.drop gone) gone) (hg : gone ≤ a.size) (hm : a.size ≤ 1099511627776) :
    Calls Try.prog 19 #[.pointer (some ⟨g, 0, none⟩), .agg #[.string a, .int .i64 gone, .int .i64 m], .int .i64 n] w fun e w' => e = .returned (.bool true) ∧ Keeps (fun _ => False) w w' := by
  rcases (show n < 0 ∨ ((a.size - gone : Nat) : Int) ≤ n ∨ (0 ≤ n ∧ n < (a.size - gone : Nat)) from by omega) with hn | hn | ⟨h0, hn⟩
  · exact same_neg w g b m gone a n h hg hm hn
  · exact same_far w g b m gone a n h hg hm hn
  · obtain ⟨k, rfl⟩ := Int.eq_ofNat_of_zero_le h0
    exact same_in w g b m gone a k h hg hm (by omega)
end Go.Proofs.Ytclgjcdkjgkchaa
