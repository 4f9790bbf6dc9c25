/-
  PastNone and PastSame return true, whatever their arguments: the walks.
-/
import Derived.Test.YtclgjcdkjgkchaaWorksB
namespace Go.Proofs.Ytclgjcdkjgkchaa
open Go.RowKit

set_option maxRecDepth 100000 in
set_option maxHeartbeats 1000000 in
theorem pastNone_walk (w : World) (s : ByteArray) (n : Int) (_h1 : s.size ≤ maxLen) (h2 : (Lit.int .i64 n).wf = true) : Calls Try.prog 8 #[.string s, .int .i64 n] w fun e w' => e = .returned (.bool true) ∧ Keeps (fun _ => False) w w' := by
  have hn : -9223372036854775808 ≤ n ∧ n ≤ 9223372036854775807 := by simpa [Lit.wf, IntKind.min, IntKind.max, IntKind.signed, IntKind.bits] using h2
  by_cases h0 : n = 0
  · subst h0
    go_enter Try.func8, Try.ntmps8
    go_wp2_with (first
      | (go_at_call 27; refine (padd_nil _ _).mono ?_; rintro e w' ⟨rfl, q, rfl⟩)
      | (go_at_call 28; refine (pslice_nil0 _).mono ?_; rintro e w' ⟨rfl, q, rfl⟩)
      | (go_at_call 30; refine (pcame_nil _).mono ?_; rintro e w' ⟨rfl, q, rfl⟩)
      | (go_at_call 31; refine (pfrom_nil _).mono ?_; rintro e w' ⟨rfl, q, rfl⟩)
      | (go_at_call 32; refine (pback_nil _ _ (by omega)).mono ?_; rintro e w' ⟨rfl, q, rfl⟩)
      | (go_at_call 26; refine (works31 _).mono ?_; rintro e w' ⟨rfl, k1⟩))
    go_ret
    exact ⟨rfl, k1.from_drewN⟩
  · have hb : (n == 0) = false := by rw [beq_eq_false_iff_ne]; exact h0
    go_enter Try.func8, Try.ntmps8
    go_wp2_with (first
      | (go_at_call 27; refine (padd_nil _ _).mono ?_; rintro e w' ⟨rfl, q, rfl⟩)
      | (go_at_call 28; refine (pslice_nil _ _ _ (by omega)).mono ?_; rintro e w' ⟨rfl, q, rfl⟩)
      | (go_at_call 30; refine (pcame_nil _).mono ?_; rintro e w' ⟨rfl, q, rfl⟩)
      | (go_at_call 31; refine (pfrom_nil _).mono ?_; rintro e w' ⟨rfl, q, rfl⟩)
      | (go_at_call 32; refine (pback_nil _ _ (by omega)).mono ?_; rintro e w' ⟨rfl, q, rfl⟩)
      | (go_at_call 26; refine (works31 _).mono ?_; rintro e w' ⟨rfl, k1⟩))
    go_ret
    exact ⟨rfl, k1.from_drewN⟩

/-- what Slice hands back, by a text and whether it is told -/
theorem pslice_by (w : World) (p g b m : Nat) (A : List UInt8) (x y : Int) (h : IsPast w p g b m A) (hA : A.length ≤ 2305843009213693952) (s : ByteArray) (ok : Bool)
    (h1 : ((A.length - m : Nat) ≤ x ∧ x ≤ y ∧ y ≤ A.length) → ok = true ∧ s = str ((A.drop x.toNat).take (y.toNat - x.toNat)))
    (h0 : ¬ ((A.length - m : Nat) ≤ x ∧ x ≤ y ∧ y ≤ A.length) → ok = false ∧ s = ⟨#[]⟩) :
    Calls Try.prog 28 #[.pointer (some ⟨p, 0, none⟩), .int .i64 x, .int .i64 y] w fun e w' => e = .returned (.tuple #[.string s, .bool ok]) ∧ Keeps (fun _ => False) w w' := by
  by_cases hc : (A.length - m : Nat) ≤ x ∧ x ≤ y ∧ y ≤ A.length
  · obtain ⟨rfl, rfl⟩ := h1 hc
    exact pslice_yes w p g b m A x y h hA hc.1 hc.2.1 hc.2.2
  · obtain ⟨rfl, rfl⟩ := h0 hc
    exact Qt.k (pslice_no w p g b m A x y h hA (by omega))

theorem cut_text (a : ByteArray) (x y : Nat) (_h : x ≤ y) : str ((a.data.toList.drop x).take (y - x)) = a.extract x y := by
  apply ba_ext
  simp [str_list, List.extract_eq_take_drop]
theorem cut_front (a b : List UInt8) (x y : Nat) (h : x ≤ y) (hy : y ≤ a.length) : ((a ++ b).drop x).take (y - x) = (a.drop x).take (y - x) := by
  rw [List.drop_append_of_le_length (by omega), List.take_append_of_le_length (by simp; omega)]

set_option maxRecDepth 100000 in
set_option maxHeartbeats 2000000 in
theorem pastSame_walk (w : World) (most : Int) (a b : ByteArray) (x y : Int) (hmost : (Lit.int .u8 most).wf = true) (_ha : a.size ≤ maxLen) (_hb : b.size ≤ maxLen) (hx : (Lit.int .u8 x).wf = true) (hy : (Lit.int .u8 y).wf = true) :
    Calls Try.prog 7 #[.int .u8 most, .string a, .string b, .int .u8 x, .int .u8 y] w fun e w' => e = .returned (.bool true) ∧ Keeps (fun _ => False) w w' := by
  have hm0 : 0 ≤ most ∧ most ≤ 255 := by simpa [Lit.wf, IntKind.min, IntKind.max, IntKind.signed, IntKind.bits] using hmost
  have hx0 : 0 ≤ x ∧ x ≤ 255 := by simpa [Lit.wf, IntKind.min, IntKind.max, IntKind.signed, IntKind.bits] using hx
  have hy0 : 0 ≤ y ∧ y ≤ 255 := by simpa [Lit.wf, IntKind.min, IntKind.max, IntKind.signed, IntKind.bits] using hy
  obtain ⟨m0, rfl⟩ := Int.eq_ofNat_of_zero_le hm0.1
  obtain ⟨x, rfl⟩ := Int.eq_ofNat_of_zero_le hx0.1
  obtain ⟨y, rfl⟩ := Int.eq_ofNat_of_zero_le hy0.1
  have hm1 : m0 ≤ 255 := by omega
  have hx1 : x ≤ 255 := by omega
  have hy1 : y ≤ 255 := by omega
  clear hmost hx hy hm0 hx0 hy0
  by_cases hbig : 250 < a.size ∨ 250 < b.size
  · rcases (show 250 < a.size ∨ (a.size ≤ 250 ∧ 250 < b.size) from by omega) with h1 | ⟨h1, h2⟩
    · go_enter Try.func7, Try.ntmps7
      go_wp2_with (go_at_call 26; refine (works31 _).mono ?_; rintro e w' ⟨rfl, k1⟩)
      go_ret
      exact ⟨rfl, k1⟩
    · go_enter Try.func7, Try.ntmps7
      go_wp2_with (go_at_call 26; refine (works31 _).mono ?_; rintro e w' ⟨rfl, k1⟩)
      go_ret
      exact ⟨rfl, k1⟩
  · have ha2 : a.size ≤ 250 := by omega
    have hb2 : b.size ≤ 250 := by omega
    clear hbig
    have hn := pnew_ok w (m0 + 1) (by omega) (by omega)
    rw [show ((m0 + 1 : Nat) : Int) = (m0 : Int) + 1 from by simp] at hn
    have Hn := Lib.hid hn
    clear hn
    have la : a.data.toList.length = a.size := by simp
    have lb : b.data.toList.length = b.size := by simp
    have lab : (a.data.toList ++ b.data.toList).length = a.size + b.size := by simp
    have LA := Lib.hid la
    have LAB := Lib.hid lab
    clear la lb lab
    by_cases h1 : a.size - (m0 + 1) ≤ x ∧ x ≤ y ∧ y ≤ a.size
    · obtain ⟨h11, h12, h13⟩ := h1
      by_cases h2 : a.size + b.size - (m0 + 1) ≤ x
      · go_enter Try.func7, Try.ntmps7
        go_wp2_with fail
        refine Hn.out.mono ?_
        rintro e w1 ⟨p, g, bb, rfl, hp, hg, hb, k1, r1⟩
        go_wp2_with fail
        refine (padd_any _ p g bb _ [] a r1 (by unfold maxLen; omega) (by simp; omega)).mono ?_
        rintro e w2 ⟨rfl, k2, r2⟩
        rw [List.nil_append] at r2
        go_wp2_with fail
        refine (pslice_by _ p g bb _ _ x y r2 (by rw [LA.out]; omega) (a.extract x y) true (fun _ => ⟨rfl, (cut_text a x y h12).symm⟩) (fun h => (h (by rw [LA.out]; omega)).elim)).mono ?_
        rintro e w3 ⟨rfl, k3⟩
        have r3 := r2.keeps k3 id id id
        go_wp2_with fail
        refine (padd_any _ p g bb _ _ b r3 (by unfold maxLen; omega) (by rw [LA.out]; omega)).mono ?_
        rintro e w4 ⟨rfl, k4, r4⟩
        go_wp2_with fail
        refine (pslice_by _ p g bb _ _ x y r4 (by rw [LAB.out]; omega) (a.extract x y) true (fun _ => ⟨rfl, by rw [← cut_text a x y h12]; exact congrArg str (cut_front _ _ x y h12 (by rw [LA.out]; omega)).symm⟩) (fun h => (h (by rw [LAB.out]; omega)).elim)).mono ?_
        rintro e w5 ⟨rfl, k5⟩
        have r5 := r4.keeps k5 id id id
        have hS : ∀ i, i < w.heap.size → (i = p ∨ i = g ∨ i = bb) → False := fun i hi h => by omega
        have K5 := (((k1.and_ k2 hS).trans k3).and_ k4 hS).trans k5
        go_wp2_with (first | (go_at_call 31; go_must (refine (Qt.k (pfrom_yes _ p g bb _ _ r5 (by rw [LAB.out]; omega))).mono ?_; rw [LAB.out]; rintro e w6 ⟨rfl, k6⟩)) | (go_at_call 26; refine (works31 _).mono ?_; rintro e w' ⟨rfl, k7⟩))
        go_ret
        exact ⟨rfl, K5.trans k7⟩
      · go_enter Try.func7, Try.ntmps7
        go_wp2_with fail
        refine Hn.out.mono ?_
        rintro e w1 ⟨p, g, bb, rfl, hp, hg, hb, k1, r1⟩
        go_wp2_with fail
        refine (padd_any _ p g bb _ [] a r1 (by unfold maxLen; omega) (by simp; omega)).mono ?_
        rintro e w2 ⟨rfl, k2, r2⟩
        rw [List.nil_append] at r2
        go_wp2_with fail
        refine (pslice_by _ p g bb _ _ x y r2 (by rw [LA.out]; omega) (a.extract x y) true (fun _ => ⟨rfl, (cut_text a x y h12).symm⟩) (fun h => (h (by rw [LA.out]; omega)).elim)).mono ?_
        rintro e w3 ⟨rfl, k3⟩
        have r3 := r2.keeps k3 id id id
        go_wp2_with fail
        refine (padd_any _ p g bb _ _ b r3 (by unfold maxLen; omega) (by rw [LA.out]; omega)).mono ?_
        rintro e w4 ⟨rfl, k4, r4⟩
        go_wp2_with fail
        refine (pslice_by _ p g bb _ _ x y r4 (by rw [LAB.out]; omega) (⟨#[]⟩) false (fun h => by rw [LAB.out] at h; omega) (fun _ => ⟨rfl, rfl⟩)).mono ?_
        rintro e w5 ⟨rfl, k5⟩
        have r5 := r4.keeps k5 id id id
        have hS : ∀ i, i < w.heap.size → (i = p ∨ i = g ∨ i = bb) → False := fun i hi h => by omega
        have K5 := (((k1.and_ k2 hS).trans k3).and_ k4 hS).trans k5
        have hfx : ¬ (((a.size + b.size - (m0 + 1) : Nat) : Int) ≤ (x : Int)) := by omega
        go_wp2_with (first | (go_at_call 31; go_must (refine (Qt.k (pfrom_yes _ p g bb _ _ r5 (by rw [LAB.out]; omega))).mono ?_; rw [LAB.out]; rintro e w6 ⟨rfl, k6⟩)) | (go_at_call 26; refine (works31 _).mono ?_; rintro e w' ⟨rfl, k7⟩))
        go_ret
        exact ⟨rfl, (K5.trans k6).trans k7⟩
    · by_cases h2 : a.size + b.size - (m0 + 1) ≤ x ∧ x ≤ y ∧ y ≤ a.size + b.size
      · go_enter Try.func7, Try.ntmps7
        go_wp2_with fail
        refine Hn.out.mono ?_
        rintro e w1 ⟨p, g, bb, rfl, hp, hg, hb, k1, r1⟩
        go_wp2_with fail
        refine (padd_any _ p g bb _ [] a r1 (by unfold maxLen; omega) (by simp; omega)).mono ?_
        rintro e w2 ⟨rfl, k2, r2⟩
        rw [List.nil_append] at r2
        go_wp2_with fail
        refine (pslice_by _ p g bb _ _ x y r2 (by rw [LA.out]; omega) (⟨#[]⟩) false (fun h => by rw [LA.out] at h; omega) (fun _ => ⟨rfl, rfl⟩)).mono ?_
        rintro e w3 ⟨rfl, k3⟩
        have r3 := r2.keeps k3 id id id
        go_wp2_with fail
        refine (padd_any _ p g bb _ _ b r3 (by unfold maxLen; omega) (by rw [LA.out]; omega)).mono ?_
        rintro e w4 ⟨rfl, k4, r4⟩
        go_wp2_with fail
        refine (pslice_by _ p g bb _ _ x y r4 (by rw [LAB.out]; omega) (str (((a.data.toList ++ b.data.toList).drop x).take (y - x))) true (fun _ => ⟨rfl, rfl⟩) (fun h => (h (by rw [LAB.out]; omega)).elim)).mono ?_
        rintro e w5 ⟨rfl, k5⟩
        have r5 := r4.keeps k5 id id id
        have hS : ∀ i, i < w.heap.size → (i = p ∨ i = g ∨ i = bb) → False := fun i hi h => by omega
        have K5 := (((k1.and_ k2 hS).trans k3).and_ k4 hS).trans k5
        go_wp2_with (first | (go_at_call 31; go_must (refine (Qt.k (pfrom_yes _ p g bb _ _ r5 (by rw [LAB.out]; omega))).mono ?_; rw [LAB.out]; rintro e w6 ⟨rfl, k6⟩)) | (go_at_call 26; refine (works31 _).mono ?_; rintro e w' ⟨rfl, k7⟩))
        go_ret
        exact ⟨rfl, K5.trans k7⟩
      · go_enter Try.func7, Try.ntmps7
        go_wp2_with fail
        refine Hn.out.mono ?_
        rintro e w1 ⟨p, g, bb, rfl, hp, hg, hb, k1, r1⟩
        go_wp2_with fail
        refine (padd_any _ p g bb _ [] a r1 (by unfold maxLen; omega) (by simp; omega)).mono ?_
        rintro e w2 ⟨rfl, k2, r2⟩
        rw [List.nil_append] at r2
        go_wp2_with fail
        refine (pslice_by _ p g bb _ _ x y r2 (by rw [LA.out]; omega) (⟨#[]⟩) false (fun h => by rw [LA.out] at h; omega) (fun _ => ⟨rfl, rfl⟩)).mono ?_
        rintro e w3 ⟨rfl, k3⟩
        have r3 := r2.keeps k3 id id id
        go_wp2_with fail
        refine (padd_any _ p g bb _ _ b r3 (by unfold maxLen; omega) (by rw [LA.out]; omega)).mono ?_
        rintro e w4 ⟨rfl, k4, r4⟩
        go_wp2_with fail
        refine (pslice_by _ p g bb _ _ x y r4 (by rw [LAB.out]; omega) (⟨#[]⟩) false (fun h => by rw [LAB.out] at h; omega) (fun _ => ⟨rfl, rfl⟩)).mono ?_
        rintro e w5 ⟨rfl, k5⟩
        have r5 := r4.keeps k5 id id id
        have hS : ∀ i, i < w.heap.size → (i = p ∨ i = g ∨ i = bb) → False := fun i hi h => by omega
        have K5 := (((k1.and_ k2 hS).trans k3).and_ k4 hS).trans k5
        go_wp2_with (first | (go_at_call 31; go_must (refine (Qt.k (pfrom_yes _ p g bb _ _ r5 (by rw [LAB.out]; omega))).mono ?_; rw [LAB.out]; rintro e w6 ⟨rfl, k6⟩)) | (go_at_call 26; refine (works31 _).mono ?_; rintro e w' ⟨rfl, k7⟩))
        go_ret
        exact ⟨rfl, K5.trans k7⟩
end Go.Proofs.Ytclgjcdkjgkchaa
