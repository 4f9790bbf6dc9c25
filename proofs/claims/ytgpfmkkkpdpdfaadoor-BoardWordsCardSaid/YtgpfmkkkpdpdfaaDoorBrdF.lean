/-
  The example of board's statements ('works') comes out true.
-/
import Derived.Test.YtgpfmkkkpdpdfaaDoorBrdE
namespace Go.Proofs.YtgpfmkkkpdpdfaaDoor
open Go.RowKit

set_option maxRecDepth 100000 in
theorem check_ok (w : World) (h : MaxL w) : Calls Tryd.prog 66 #[.string ⟨#[97, 32, 98]⟩] w fun e w' => e = .returned (.int .i64 0) ∧ w' = w := by
  have hc := contains_any w h ⟨#[97, 32, 98]⟩ ⟨#[32, 32]⟩ (by decide)
  rw [show Lib.contains (⟨#[97, 32, 98]⟩ : ByteArray).data.toList (⟨#[32, 32]⟩ : ByteArray).data.toList = false by decide] at hc
  have HC := Lib.hid hc
  clear hc
  go_enter Tryd.func66, Tryd.ntmps66
  go_wp2_with fail
  refine HC.out.mono ?_
  rintro e w0 ⟨rfl, hw0⟩
  obtain rfl : w = w0 := hw0.symm
  go_wp2_with fail
  go_ret
  exact ⟨rfl, rfl⟩
set_option maxRecDepth 100000 in
theorem check_bad (w : World) (h : MaxL w) : Calls Tryd.prog 66 #[.string ⟨#[97, 32, 32, 98]⟩] w fun e w' => e = .returned (.int .i64 3) ∧ w' = w := by
  have hc := contains_any w h ⟨#[97, 32, 32, 98]⟩ ⟨#[32, 32]⟩ (by decide)
  rw [show Lib.contains (⟨#[97, 32, 32, 98]⟩ : ByteArray).data.toList (⟨#[32, 32]⟩ : ByteArray).data.toList = true by decide] at hc
  have HC := Lib.hid hc
  clear hc
  go_enter Tryd.func66, Tryd.ntmps66
  go_wp2_with fail
  refine HC.out.mono ?_
  rintro e w0 ⟨rfl, hw0⟩
  obtain rfl : w = w0 := hw0.symm
  go_wp2_with fail
  go_ret
  exact ⟨rfl, rfl⟩

def sDb : ByteArray := ⟨#[100, 98]⟩
def sWaits : ByteArray := ⟨#[119, 97, 105, 116, 115]⟩
def sLine2 : ByteArray := ⟨#[100, 98, 32, 32, 32, 32, 119, 97, 105, 116, 115]⟩
def rowsEx : List (List ByteArray) := [[sWeb, sUp, sAnn], [sDb, sWaits], []]
theorem table_ex : tableP rowsEx = [sLine, sLine2, ⟨#[]⟩] := by decide +kernel
theorem dec_10 : dec 10 = [49, 48] := by rw [dec_pos (by decide), decN_big (by decide), decN_small (by decide)]; rfl
theorem dec_999 : dec 999 = [57, 57, 57] := by rw [dec_pos (by decide), decN_big (by decide), decN_big (by decide), decN_small (by decide)]; rfl
theorem size_10240 : sizeP 10240 = ⟨#[49, 48, 75]⟩ := by unfold sizeP; rw [if_neg (by decide), if_neg (by decide), if_pos (by decide), show (10240 : Int) / 1024 = 10 from rfl, dec_10]; rfl
theorem size_999 : sizeP 999 = ⟨#[57, 57, 57]⟩ := by unfold sizeP; rw [if_neg (by decide), if_pos (by decide), dec_999]; rfl
theorem ownL_slat {w : World} {B : Nat} {e : TypeId} {a : Option Addr} {n c : Nat} {l : List ByteArray} (h : OwnL w B e (.slice a n c) (l.map Value.string)) : n = l.length ∧ SlAt strR 1 w a l.length l := by
  obtain ⟨a', c', hv, hs⟩ := ownL_strs h
  injection hv with e1 e2 e3
  subst e1
  exact ⟨e2, hs⟩
theorem strsV_new (w : World) (t : TypeId) (l : List ByteArray) (c : Nat) : StrsV (w.alloc (.cells (l.map Value.string).toArray t)) (.slice (some ⟨w.heap.size, 0, none⟩) l.length c) l := ⟨_, _, rfl, slat_new w t l⟩
theorem StrsV.nil_ (w : World) : StrsV w (.slice none 0 0) [] := ⟨none, 0, rfl, rfl, fun h => absurd h (by simp)⟩
theorem rows2_new {w : World} {t : TypeId} {vs : List Value} {L : List (List ByteArray)} (hl : vs.length = L.length) (h : ∀ (i : Nat) (v : Value) (l : List ByteArray), vs[i]? = some v → L[i]? = some l → StrsV w v l) : Rows2 (w.alloc (.cells vs.toArray t)) (some ⟨w.heap.size, 0, none⟩) vs.length L := by
  refine ⟨hl.symm, fun _ => ⟨w.heap.size, 0, rfl, by simp, fun i l hi => ?_⟩⟩
  obtain ⟨v, hv⟩ : ∃ v, vs[i]? = some v := ⟨_, List.getElem?_eq_getElem (by rw [hl]; exact (List.getElem?_eq_some_iff.1 hi).1)⟩
  refine ⟨v, ?_, (h i v l hv hi).keeps ((Keeps.refl (fun _ => False) _).alloc _) (fun _ _ => id)⟩
  have h6 := (Blk.new w t vs.toArray).cell i
  rw [List.getElem?_toArray, hv] at h6
  rw [Nat.zero_add]; exact h6

set_option maxRecDepth 100000 in
set_option maxHeartbeats 2000000 in
theorem works34 (w : World) (h : MaxL w) : Calls Tryd.prog 23 #[] w fun e w' => e = .returned (.bool true) ∧ Keeps (fun _ => False) w w' := by
  have HM := Lib.hid h
  clear h
  go_enter Tryd.func23, Tryd.ntmps23
  go_wp2_with (go_at_call 64; refine (row_any _ _).mono ?_; rintro e w0 ⟨rfl, hw0⟩; subst hw0)
  have R2 : Rows2 (((w.alloc (Obj.cells #[Value.string ⟨#[119, 101, 98, 49]⟩, Value.string ⟨#[117, 112]⟩, Value.string ⟨#[97, 110, 110]⟩] 9)).alloc (Obj.cells #[Value.string ⟨#[100, 98]⟩, Value.string ⟨#[119, 97, 105, 116, 115]⟩] 9)).alloc (Obj.cells #[Value.slice (some ⟨w.heap.size, 0, none⟩) 3 3, Value.slice (some ⟨w.heap.size + 1, 0, none⟩) 2 2, Value.slice none 0 0] 32)) (some ⟨w.heap.size + 1 + 1, 0, none⟩) 3 rowsEx := by
    have h := rows2_new (w := (w.alloc (Obj.cells #[Value.string ⟨#[119, 101, 98, 49]⟩, Value.string ⟨#[117, 112]⟩, Value.string ⟨#[97, 110, 110]⟩] 9)).alloc (Obj.cells #[Value.string ⟨#[100, 98]⟩, Value.string ⟨#[119, 97, 105, 116, 115]⟩] 9)) (t := 32) (vs := [Value.slice (some ⟨w.heap.size, 0, none⟩) 3 3, Value.slice (some ⟨w.heap.size + 1, 0, none⟩) 2 2, Value.slice none 0 0]) (L := rowsEx) rfl (by
      intro i v l hv hl
      match i, hv, hl with
      | 0, hv, hl =>
        injection hv with hv; injection hl with hl; subst hv hl
        exact (strsV_new w 9 [sWeb, sUp, sAnn] 3).keeps ((Keeps.refl (fun _ => False) _).alloc _) (fun _ _ => id)
      | 1, hv, hl =>
        injection hv with hv; injection hl with hl; subst hv hl
        have h5 := strsV_new (w.alloc (Obj.cells #[Value.string ⟨#[119, 101, 98, 49]⟩, Value.string ⟨#[117, 112]⟩, Value.string ⟨#[97, 110, 110]⟩] 9)) 9 [sDb, sWaits] 2
        rw [show (w.alloc (Obj.cells #[Value.string ⟨#[119, 101, 98, 49]⟩, Value.string ⟨#[117, 112]⟩, Value.string ⟨#[97, 110, 110]⟩] 9)).heap.size = w.heap.size + 1 by simp] at h5
        exact h5
      | 2, hv, hl =>
        injection hv with hv; injection hl with hl; subst hv hl
        exact StrsV.nil_ _
      | i + 3, hv, hl => simp at hv)
    simpa using h
  have hT := table_any _ _ 3 3 rowsEx R2 (by decide) (by simp [rowsEx]) (by decide)
  rw [table_ex] at hT
  refine hT.mono ?_
  clear R2 hT
  rintro e w1 ⟨⟨v, rfl, hO⟩, k1⟩
  obtain ⟨a1, c1, rfl⟩ := hO.sl'
  rw [List.length_map] at hO ⊢
  have K1 : Keeps (fun _ => False) w w1 := Keeps.trans (((((Keeps.refl _ _).alloc _).alloc _).alloc _)) k1
  have HO := Lib.hid hO
  have HK1 := Lib.hid K1
  clear hO k1 K1
  go_wp2_with fail
  refine (same10_any _ _ _ _ _ _ _ [sLine, sLine2, ⟨#[]⟩] [sLine, sLine2, ⟨#[]⟩] ((ownL_slat HO.out).2.keeps ((Keeps.refl (fun _ => False) _).alloc _) (fun _ _ => id)) (slat_new _ _ [sLine, sLine2, ⟨#[]⟩]) (by decide) (by decide)).mono ?_
  rintro e w2 ⟨rfl, k2⟩
  have K2 := HK1.out.trans (Keeps.trans ((Keeps.refl _ _).alloc _) k2)
  rw [decide_eq_true (Eq.refl [sLine, sLine2, (⟨#[]⟩ : ByteArray)])]
  obtain ⟨g1, q1, hv1, hc1, -, -, -⟩ := OwnL.cellAt (j := 0) (HO.out.keeps (Keeps.trans ((Keeps.refl (fun _ => False) _).alloc _) k2) (fun _ _ _ => id)) rfl rfl
  injection hv1 with e1 e2 e3
  subst e1 e3
  have HK2 := Lib.hid K2
  clear k2 K2 e2
  go_wp2_with fail
  refine (columns_ex _ (HM.out.keeps HK2.out)).mono ?_
  rintro e w3 ⟨⟨v, rfl, hO3⟩, k3⟩
  obtain ⟨a3, c3, rfl⟩ := hO3.sl'
  rw [List.length_map] at hO3 ⊢
  have HO3 := Lib.hid hO3
  have HK3 := Lib.hid (HK2.out.trans k3)
  clear hO3 k3 hc1
  go_wp2_with fail
  refine (same10_any _ _ _ _ _ _ _ [sWeb, sUp, sAnn] [sWeb, sUp, sAnn] ((ownL_slat HO3.out).2.keeps ((Keeps.refl (fun _ => False) _).alloc _) (fun _ _ => id)) (slat_new _ _ [sWeb, sUp, sAnn]) (by decide) (by decide)).mono ?_
  rintro e w4 ⟨rfl, k4⟩
  rw [decide_eq_true (Eq.refl [sWeb, sUp, sAnn])]
  have HK4 := Lib.hid (HK3.out.trans (Keeps.trans ((Keeps.refl _ _).alloc _) k4))
  clear k4
  go_wp2_with fail
  refine (state_any _ 4).mono ?_
  rintro e w5 ⟨rfl, k5⟩
  rw [show wordP 4 stateW = ⟨#[117, 112]⟩ from rfl]
  have HK5 := Lib.hid (HK4.out.trans k5)
  clear k5
  go_wp2_with fail
  refine (state_any _ 6).mono ?_
  rintro e w6 ⟨rfl, k6⟩
  rw [show wordP 6 stateW = ⟨#[63]⟩ from rfl]
  have HK6 := Lib.hid (HK5.out.trans k6)
  clear k6
  go_wp2_with fail
  refine (role_any _ 2).mono ?_
  rintro e w7 ⟨rfl, k7⟩
  rw [show wordP 2 roleW = ⟨#[119, 114, 105, 116, 101, 114]⟩ from rfl]
  have HK7 := Lib.hid (HK6.out.trans k7)
  clear k7
  go_wp2_with fail
  refine (level_any _ 3).mono ?_
  rintro e w8 ⟨rfl, k8⟩
  rw [show wordP 3 levelW = ⟨#[99, 104, 105, 101, 102]⟩ from rfl]
  have HK8 := Lib.hid (HK7.out.trans k8)
  clear k8
  go_wp2_with fail
  refine (kind_any _ 2).mono ?_
  rintro e w9 ⟨rfl, k9⟩
  rw [show wordP 2 kindW = ⟨#[112, 116, 121]⟩ from rfl]
  have HK9 := Lib.hid (HK8.out.trans k9)
  clear k9
  go_wp2_with fail
  refine (kind_any _ 0).mono ?_
  rintro e w10 ⟨rfl, k10⟩
  rw [show wordP 0 kindW = ⟨#[63]⟩ from rfl]
  have HK10 := Lib.hid (HK9.out.trans k10)
  clear k10
  go_wp2_with fail
  refine (size34 _ 10240 (by decide) (by decide)).mono ?_
  rintro e w11 ⟨rfl, k11⟩
  rw [size_10240]
  have HK11 := Lib.hid (HK10.out.trans k11)
  clear k11
  go_wp2_with fail
  refine (size34 _ 999 (by decide) (by decide)).mono ?_
  rintro e w12 ⟨rfl, k12⟩
  rw [size_999]
  have HK12 := Lib.hid (HK11.out.trans k12)
  clear k12
  go_wp2_with fail
  refine (Qt.k (yes_any _ true _)).mono ?_
  rintro e w13 ⟨rfl, k13⟩
  simp only [if_true]
  have HK13 := Lib.hid (HK12.out.trans k13)
  clear k13
  go_wp2_with fail
  refine (Qt.k (yes_any _ false _)).mono ?_
  rintro e w14 ⟨rfl, k14⟩
  simp only [Bool.false_eq_true, if_false]
  have HK14 := Lib.hid (HK13.out.trans k14)
  clear k14
  go_wp2_with fail
  refine (check_ok _ (HM.out.keeps HK14.out)).mono ?_
  rintro e w0 ⟨rfl, hw0⟩
  obtain rfl : w14 = w0 := hw0.symm
  go_wp2_with fail
  refine (check_bad _ (HM.out.keeps HK14.out)).mono ?_
  rintro e w0 ⟨rfl, hw0⟩
  obtain rfl : w14 = w0 := hw0.symm
  go_wp2_with fail
  go_ret
  exact ⟨rfl, HK14.out⟩
end Go.Proofs.YtgpfmkkkpdpdfaaDoor
