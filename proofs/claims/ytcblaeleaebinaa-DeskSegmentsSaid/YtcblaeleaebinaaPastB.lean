/-
  The past's New, Add and Slice.
-/
import Derived.Test.YtcblaeleaebinaaPastA
import Derived.Test.YtcblaeleaebinaaOwn
namespace Go.Proofs.Ytcblaeleaebinaa
open Go.RowKit

theorem pnew_bad (w : World) (k : Int) (hk : k < 1 ∨ 1048576 < k) : Calls Try.prog 8 #[.int .i64 k] w (Qt (.tuple #[.pointer none, .int .i64 2]) w) := by
  go_enter Try.func8, Try.ntmps8
  go_wp2_with (go_at_call 30; refine (new_bad _ _ hk).mono ?_; rintro e w' ⟨rfl, n, rfl⟩)
  go_ret2
  exact Qt.of rfl

theorem pnew_ok (w : World) (k : Nat) (h1 : 1 ≤ k) (h2 : k ≤ 1048576) : Calls Try.prog 8 #[.int .i64 k] w fun e w' =>
    ∃ p g b, e = .returned (.tuple #[.pointer (some ⟨p, 0, none⟩), .int .i64 0]) ∧ w.heap.size ≤ p ∧ w.heap.size ≤ g ∧ w.heap.size ≤ b ∧ Keeps (fun _ => False) w w' ∧ IsPast w' p g b k [] := by
  go_enter Try.func8, Try.ntmps8
  go_wp2_with (go_at_call 30; refine (new_ok _ _ h1 h2).mono ?_; rintro e w1 ⟨g, b, rfl, hg, hb, k1, r1⟩)
  go_ret2
  have hl := r1.lt
  refine ⟨w1.heap.size, g, b, rfl, k1.size, hg, hb, k1.alloc _, Blk.new _ _ _, ?_, by omega, by omega⟩
  have := r1.keeps ((Keeps.refl (fun _ => False) w1).alloc (.cells #[.pointer (some ⟨g, 0, none⟩), .int .i64 0] 67)) id id
  simpa using this

section
variable (w : World) (p g b m : Nat) (A : List UInt8)

theorem padd_any (s : ByteArray) (h : IsPast w p g b m A) (hs : s.size ≤ maxLen) (hA : A.length + s.size ≤ 2305843009213693952) :
    Calls Try.prog 11 #[.pointer (some ⟨p, 0, none⟩), .string s] w fun e w' => e = .returned (.tuple #[]) ∧ Keeps (fun i => i = p ∨ i = g ∨ i = b) w w' ∧ IsPast w' p g b m (A ++ s.data.toList) := by
  have c0 := h.top.cell 0
  have c1 := h.top.cell 1
  have f1 := h.top.frozen 1
  simp at c0 c1
  have hne1 := h.ne1
  have hne2 := h.ne2
  have hst : (A.drop (A.length - m) ++ s.data.toList).drop ((A.drop (A.length - m)).length + s.size - m) = (A ++ s.data.toList).drop ((A ++ s.data.toList).length - m) ∧ (A.length - m) + ((A.drop (A.length - m)).length + s.size - m) = (A ++ s.data.toList).length - m := by
    have hl : s.data.toList.length = s.size := by simp
    have h2 : (A.length - m) + ((A.drop (A.length - m)).length + s.size - m) = (A ++ s.data.toList).length - m := by simp [hl]; omega
    refine ⟨?_, h2⟩
    rw [← h2, ← List.drop_drop]
    congr 1
    rw [List.drop_append_of_le_length (by omega)]
  have HST := Lib.hid hst
  clear hst
  go_enter Try.func11, Try.ntmps11
  go_wp2_with (first
    | (go_at_call 31; refine (pmade_yes _ _ _ _ _ _ h).mono ?_; rintro e w' ⟨rfl, n, rfl⟩)
    | (go_at_call 32; go_must (refine (force_any _ g b m _ _ s ((h.ring.drewN n).keeps ((Keeps.refl (· = p) _).setCell (p := ⟨p, 1, none⟩) (fun _ => rfl) _) (fun e => hne1 e.symm) (fun e => hne2 e.symm)) hs (by omega)).mono ?_; rw [HST.out.1, HST.out.2]; rintro e w2 ⟨rfl, k2, r2⟩)))
  go_end0
  have T := (((h.top.drewN n).set_ 1 (.int .i64 ((A ++ s.data.toList).length : Nat))).keeps (w' := w2) (S := fun k => k = g ∨ k = b))
  have hl : (((A ++ s.data.toList).length : Nat) : Int) = (A.length : Int) + s.size := by simp
  rw [hl] at T
  have T := T k2 (fun e => by rcases e with e | e; exact hne1 e; exact hne2 e)
  refine ⟨rfl, (((Keeps.refl _ _).drewN n).setCell (fun _ => .inl rfl) _).trans (k2.mono fun i _ e => .inr e), ?_, r2, hne1, hne2⟩
  rw [hl]
  simpa using T

theorem pslice_no (x y : Int) (h : IsPast w p g b m A) (hA : A.length ≤ 2305843009213693952) (hx : x < (A.length - m : Nat) ∨ y < x ∨ (A.length : Int) < y) :
    Calls Try.prog 33 #[.pointer (some ⟨p, 0, none⟩), .int .i64 x, .int .i64 y] w (Qt (.tuple #[.string ⟨#[]⟩, .bool false]) w) := by
  rcases (show x < (A.length - m : Nat) ∨ ((A.length - m : Nat) ≤ x ∧ y < x) ∨ ((A.length - m : Nat) ≤ x ∧ x ≤ y ∧ (A.length : Int) < y) from by omega) with h1 | ⟨h1, h2⟩ | ⟨h1, h2, h3⟩
  · go_enter Try.func33, Try.ntmps33
    go_wp2_with (go_at_call 50; refine (pfrom_yes _ p g b m A h (by omega)).mono ?_; rintro e w' ⟨rfl, n, rfl⟩)
    go_ret2
    exact Qt.of rfl
  · go_enter Try.func33, Try.ntmps33
    go_wp2_with (go_at_call 50; refine (pfrom_yes _ p g b m A h (by omega)).mono ?_; rintro e w' ⟨rfl, n, rfl⟩)
    go_ret2
    exact Qt.of rfl
  · go_enter Try.func33, Try.ntmps33
    go_wp2_with (first | (go_at_call 50; refine (pfrom_yes _ p g b m A h (by omega)).mono ?_; rintro e w' ⟨rfl, n, rfl⟩) | (go_at_call 51; refine (pcame_yes _ p g b m A (h.drewN _)).mono ?_; rintro e w' ⟨rfl, n2, rfl⟩))
    go_ret2
    exact Qt.of rfl

theorem pslice_eq (x : Int) (h : IsPast w p g b m A) (hA : A.length ≤ 2305843009213693952) (h1 : (A.length - m : Nat) ≤ x) (h2 : x ≤ A.length) :
    Calls Try.prog 33 #[.pointer (some ⟨p, 0, none⟩), .int .i64 x, .int .i64 x] w (Qt (.tuple #[.string ⟨#[]⟩, .bool true]) w) := by
  go_enter Try.func33, Try.ntmps33
  go_wp2_with (first | (go_at_call 50; refine (pfrom_yes _ p g b m A h (by omega)).mono ?_; rintro e w' ⟨rfl, n, rfl⟩) | (go_at_call 51; refine (pcame_yes _ p g b m A (h.drewN _)).mono ?_; rintro e w' ⟨rfl, n2, rfl⟩))
  go_ret2
  exact Qt.of rfl

theorem pslice_lt (x y : Nat) (h : IsPast w p g b m A) (hA : A.length ≤ 2305843009213693952) (h1 : A.length - m ≤ x) (h2 : x < y) (h3 : y ≤ A.length) :
    Calls Try.prog 33 #[.pointer (some ⟨p, 0, none⟩), .int .i64 x, .int .i64 y] w fun e w' => e = .returned (.tuple #[.string (str ((A.drop x).take (y - x))), .bool true]) ∧ Keeps (fun _ => False) w w' := by
  have hb : ((x : Int) == y) = false := by rw [beq_eq_false_iff_ne]; omega
  have hpl := h.lt
  have hm := h.pos
  go_enter Try.func33, Try.ntmps33
  go_wp2_with fail
  refine (Qt.k (pfrom_yes _ p g b m A h (by omega))).mono ?_
  rintro e w2 ⟨rfl, k2⟩
  have h := h.keeps k2 id id id
  go_wp2_with fail
  refine (Qt.k (pcame_yes _ p g b m A h)).mono ?_
  rintro e w3 ⟨rfl, k3⟩
  have h := h.keeps k3 id id id
  go_wp2_with fail
  refine (Qt.k (pfrom_yes _ p g b m A h (by omega))).mono ?_
  rintro e w4 ⟨rfl, k4⟩
  have h := h.keeps k4 id id id
  have K4 := (k2.trans k3).trans k4
  clear k2 k3 k4
  have hlt0 := hpl
  have HA : Hid (∀ k c, ((A.drop x).take (y - x))[k]? = some c → (A.drop (A.length - m))[x - (A.length - m) + k]? = some c) := fun k c hk => by
    rw [List.getElem?_take] at hk
    split at hk
    · rw [List.getElem?_drop] at hk ⊢
      rw [← hk]; congr 1; omega
    · cases hk
  have hwl : ((A.drop x).take (y - x)).length = y - x := by simp; omega
  obtain ⟨cs, hcs⟩ : ∃ cs, cs = (A.drop x).take (y - x) := ⟨_, rfl⟩
  rw [← hcs] at HA hwl
  have HC := Lib.hid hcs
  clear hcs
  have hK5 : w.heap.size ≤ w4.heap.size := K4.size
  go_wp2_with (with_reducible show wpList _ _ _ (⟨some 38, _, _, _, _, _⟩ :: _) _ _; go_must (refine wpList_make_empty rfl (.const (.int .i64 0)) (.tmp 37) 55 rfl 5 (.int .u8 0) 1 Try.underlying55 (by kernel_rfl) (by omega) _ .i64 rfl rfl (by omega) (by omega) ?_; intro w5 o5 k5 s5; have S5 := Lib.hid s5; clear s5))
  have o5 := o5.more hK5
  rw [show ((y : Int) - (x : Int)).toNat = y - x by omega] at o5
  have K5 := K4.trans k5
  have h := h.keeps k5 id id id
  have hu : ∀ c : UInt8, (Value.int .u8 (c.toNat : Int)).oneCell' = true := fun _ => rfl
  have HU := Lib.hid hu
  clear hu
  go_loopw [9, 10, 11, 12] (fun u9 u10 u11 u12 wr => ∃ k : Nat, k ≤ y - x ∧ u10 = .int .i64 ((x : Int) - (A.length - m : Nat) + k) ∧ OwnL wr w.heap.size 5 u9 ((cs.take k).map fun c => Value.int .u8 c.toNat) ∧ IsPast wr p g b m A ∧ Keeps (fun _ => False) w wr)
    (fun _ u10 _ _ _ => (y - (intOf u10).toNat))
  case atStart => exact ⟨0, Nat.zero_le _, by simp, o5, h, K5⟩
  case round =>
    obtain ⟨k, hk, rfl, hO, hI, hK⟩ := hrel
    by_cases hlt : k < y - x
    · obtain ⟨c, hc⟩ : ∃ c, cs[k]? = some c := ⟨cs[k]'(by omega), List.getElem?_eq_getElem (by omega)⟩
      have hc2 : (A.drop (A.length - m))[((x : Int) - (A.length - m : Nat) + k).toNat]? = some c := by
        rw [show ((x : Int) - (A.length - m : Nat) + k).toNat = x - (A.length - m) + k by omega]
        exact HA.out k c hc
      have HC2 := Lib.hid hc2
      have hc3 : cs.take (k + 1) = cs.take k ++ [c] := by rw [List.take_add_one, hc]; rfl
      have HC3 := Lib.hid hc3
      clear hc hc2 hc3
      have c0 := hI.top.cell 0
      simp at c0
      have hl1 : (x : Int) - (A.length - m : Nat) + k < (x : Int) - (A.length - m : Nat) + y - x := by omega
      go_wp2_with (first | (go_at_call 52; go_must (refine (Qt.k (iat_in _ g b m _ _ _ c hI.ring (by omega) HC2.out)).mono ?_; rintro e w6 ⟨rfl, k6⟩; have O6 := hO.keeps k6 (fun _ _ _ => id); have sz6 := k6.size; have szr := hK.size)) | (with_reducible show wpList _ _ _ (⟨some 61, _, _, _, _, _⟩ :: _) _ _; go_must (refine wpList_append_one rfl (.tmp 58) (.tmp 60) 55 rfl w.heap.size 5 (.int .u8 0) 1 Try.underlying55 (by kernel_rfl) rfl (by omega) _ _ rfl (O6.keeps ((Keeps.refl (fun _ => False) _).alloc _) (fun _ _ _ => id)) ⟨w6.heap.size, 0, none⟩ 1 (.int .u8 c.toNat) rfl ((Blk.new _ _ _).cell 0) (HU.out c) (by simp; omega) (by simp; omega) ?_; intro v7 w7 O7 k7)))
      go_roundw
      case rel =>
        have K7 := ((Keeps.refl (fun _ => False) wr).trans k6).alloc (.cells #[.int .u8 c.toNat] 5)
        refine ⟨k + 1, by omega, by go_num, ?_, ?_, ?_⟩
        · rw [HC3.out, List.map_append]; exact O7
        · exact (hI.keeps K7 id id id).keeps k7 (fun e => by omega) (fun e => by omega) (fun e => by omega)
        · exact (hK.trans K7).and_ k7 (fun i hi e => by omega)
      case measure => simp [intOf]; omega
    · have hk2 : k = y - x := by omega
      subst hk2
      have hl2 : ¬ ((x : Int) - (A.length - m : Nat) + (y - x : Nat) < (x : Int) - (A.length - m : Nat) + y - x) := by omega
      have hO2 : OwnL wr w.heap.size 5 u9 (cs.map fun c => Value.int .u8 c.toNat) := by rw [List.take_of_length_le (by omega)] at hO; exact hO
      go_wp2_with (with_reducible show wpList _ _ _ (⟨some 63, _, _, _, _, _⟩ :: _) _ _; go_must (refine wpList_string_own rfl (.tmp 62) 55 9 rfl 5 Try.underlying55 Try.underlying5 Try.underlying9 w.heap.size u9 cs rfl hO2 ?_))
      go_ret2
      exact ⟨by rw [← HC.out]; rfl, hK⟩

theorem pslice_yes (x y : Int) (h : IsPast w p g b m A) (hA : A.length ≤ 2305843009213693952) (h1 : (A.length - m : Nat) ≤ x) (h2 : x ≤ y) (h3 : y ≤ A.length) :
    Calls Try.prog 33 #[.pointer (some ⟨p, 0, none⟩), .int .i64 x, .int .i64 y] w fun e w' => e = .returned (.tuple #[.string (str ((A.drop x.toNat).take (y.toNat - x.toNat))), .bool true]) ∧ Keeps (fun _ => False) w w' := by
  by_cases he : x = y
  · subst he
    rw [Nat.sub_self, List.take_zero]
    exact Qt.k (pslice_eq w p g b m A x h hA h1 h3)
  · obtain ⟨a, rfl⟩ := Int.eq_ofNat_of_zero_le (show 0 ≤ x by omega)
    obtain ⟨c, rfl⟩ := Int.eq_ofNat_of_zero_le (show 0 ≤ y by omega)
    exact pslice_lt w p g b m A a c h hA (by omega) (by omega) (by omega)
end

theorem pslice_nil (w : World) (x y : Int) (hx : x < 0 ∨ y < x ∨ 0 < y) : Calls Try.prog 33 #[.pointer none, .int .i64 x, .int .i64 y] w (Qt (.tuple #[.string ⟨#[]⟩, .bool false]) w) := by
  rcases (show x < 0 ∨ (0 ≤ x ∧ y < x) ∨ (0 ≤ x ∧ x ≤ y ∧ 0 < y) from by omega) with h1 | ⟨h1, h2⟩ | ⟨h1, h2, h3⟩
  · go_enter Try.func33, Try.ntmps33
    go_wp2_with (go_at_call 50; refine (pfrom_nil _).mono ?_; rintro e w' ⟨rfl, n, rfl⟩)
    go_ret2
    exact Qt.of rfl
  · go_enter Try.func33, Try.ntmps33
    go_wp2_with (go_at_call 50; refine (pfrom_nil _).mono ?_; rintro e w' ⟨rfl, n, rfl⟩)
    go_ret2
    exact Qt.of rfl
  · go_enter Try.func33, Try.ntmps33
    go_wp2_with (first | (go_at_call 50; refine (pfrom_nil _).mono ?_; rintro e w' ⟨rfl, n, rfl⟩) | (go_at_call 51; refine (pcame_nil _).mono ?_; rintro e w' ⟨rfl, n2, rfl⟩))
    go_ret2
    exact Qt.of rfl
theorem pslice_nil0 (w : World) : Calls Try.prog 33 #[.pointer none, .int .i64 0, .int .i64 0] w (Qt (.tuple #[.string ⟨#[]⟩, .bool true]) w) := by
  go_enter Try.func33, Try.ntmps33
  go_wp2_with (first | (go_at_call 50; refine (pfrom_nil _).mono ?_; rintro e w' ⟨rfl, n, rfl⟩) | (go_at_call 51; refine (pcame_nil _).mono ?_; rintro e w' ⟨rfl, n2, rfl⟩))
  go_ret2
  exact Qt.of rfl
theorem padd_nil (w : World) (s : ByteArray) : Calls Try.prog 11 #[.pointer none, .string s] w (Qt (.tuple #[]) w) := by
  go_enter Try.func11, Try.ntmps11
  go_wp2_with (go_at_call 31; refine (pmade_nil _).mono ?_; rintro e w' ⟨rfl, n, rfl⟩)
  go_end0
  exact Qt.of rfl
end Go.Proofs.Ytcblaeleaebinaa
