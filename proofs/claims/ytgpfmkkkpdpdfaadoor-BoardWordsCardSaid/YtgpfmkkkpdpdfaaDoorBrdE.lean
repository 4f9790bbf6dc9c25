/-
  board's Row, Columns and Check at the example's texts.
-/
import Derived.Test.YtgpfmkkkpdpdfaaDoorTableS
namespace Go.Proofs.YtgpfmkkkpdpdfaaDoor
open Go.RowKit

/-- the library's own bound holds some number -/
def MaxL (w : World) : Prop := ∃ m : Int, w.cell? ⟨1, 0, none⟩ = some (.int .i64 m)
theorem MaxL.keeps {w w' : World} (h : MaxL w) (k : Keeps (fun _ => False) w w') : MaxL w' := by
  obtain ⟨m, hm⟩ := h
  have hlt := block_lt_of_cell hm
  exact ⟨m, (World.cell?_of_block (w := w) (k.block _ hlt id)).trans hm⟩
theorem index_any (w : World) (h : MaxL w) (s t : ByteArray) (hs : s.size < 4294967281) :
    Calls Tryd.prog 95 #[.string s, .string t] w fun e w' => e = .returned (.int .i64 (Lib.index s.data.toList t.data.toList)) ∧ w' = w := by
  obtain ⟨m, hm⟩ := h
  exact Tryd.strings_Index s t m w hs hm
theorem contains_any (w : World) (h : MaxL w) (s t : ByteArray) (hs : s.size < 4294967281) :
    Calls Tryd.prog 97 #[.string s, .string t] w fun e w' => e = .returned (.bool (Lib.contains s.data.toList t.data.toList)) ∧ w' = w := by
  obtain ⟨m, hm⟩ := h
  exact Tryd.strings_Contains s t m w hs hm

theorem row_any (w : World) (v : Value) : Calls Tryd.prog 64 #[v] w fun e w' => e = .returned v ∧ w' = w := by
  go_enter Tryd.func64, Tryd.ntmps64
  go_wp2_with fail
  go_ret
  exact ⟨rfl, rfl⟩

def sWeb : ByteArray := ⟨#[119, 101, 98, 49]⟩
def sUp : ByteArray := ⟨#[117, 112]⟩
def sAnn : ByteArray := ⟨#[97, 110, 110]⟩
def sUpAnn : ByteArray := ⟨#[117, 112, 32, 32, 32, 32, 32, 97, 110, 110]⟩
def sLine : ByteArray := ⟨#[119, 101, 98, 49, 32, 32, 117, 112, 32, 32, 32, 32, 32, 97, 110, 110]⟩
theorem trimUp : (⟨(Lib.trimLeftB (sLine.extract 4 16).data.toList 32).toArray⟩ : ByteArray) = sUpAnn := by decide +kernel
theorem trimAnn : (⟨(Lib.trimLeftB (sUpAnn.extract 2 10).data.toList 32).toArray⟩ : ByteArray) = sAnn := by decide +kernel

set_option maxRecDepth 100000 in
set_option maxHeartbeats 1000000 in
theorem columns_ex (w : World) (h : MaxL w) : Calls Tryd.prog 65 #[.string sLine] w fun e w' => (∃ v, e = .returned v ∧ OwnL w' w.heap.size 9 v ([sWeb, sUp, sAnn].map Value.string)) ∧ Keeps (fun _ => False) w w' := by
  have hI := fun w h => index_any w h sLine ⟨#[32, 32]⟩ (by decide)
  have hJ := fun w h => index_any w h sUpAnn ⟨#[32, 32]⟩ (by decide)
  have hK := fun w h => index_any w h sAnn ⟨#[32, 32]⟩ (by decide)
  rw [show Lib.index sLine.data.toList (⟨#[32, 32]⟩ : ByteArray).data.toList = 4 by decide] at hI
  rw [show Lib.index sUpAnn.data.toList (⟨#[32, 32]⟩ : ByteArray).data.toList = 2 by decide] at hJ
  rw [show Lib.index sAnn.data.toList (⟨#[32, 32]⟩ : ByteArray).data.toList = -1 by decide] at hK
  have e1 : sLine.toList.isEmpty = false := by rw [ByteArray.toList_eq]; rfl
  have e2 : sUpAnn.toList.isEmpty = false := by rw [ByteArray.toList_eq]; rfl
  have e3 : sAnn.toList.isEmpty = false := by rw [ByteArray.toList_eq]; rfl
  have z1 : sLine.size = 16 := rfl
  have z2 : sUpAnn.size = 10 := rfl
  have z3 : sAnn.size = 3 := rfl
  have x1 : sLine.extract 0 4 = sWeb := by decide
  have x2 : sUpAnn.extract 0 2 = sUp := by decide
  have hT1 := fun w => Tryd.strings_TrimLeft_one (sLine.extract 4 16) 32 (by decide) w
  have hT2 := fun w => Tryd.strings_TrimLeft_one (sUpAnn.extract 2 10) 32 (by decide) w
  rw [trimUp] at hT1
  rw [trimAnn] at hT2
  have HI := Lib.hid hI
  have HJ := Lib.hid hJ
  have HK := Lib.hid hK
  have HT1 := Lib.hid hT1
  have HT2 := Lib.hid hT2
  have HM := Lib.hid h
  clear hI hJ hK hT1 hT2 h
  generalize sLine = L0 at *
  generalize sUpAnn = L1 at *
  generalize sAnn = L2 at *
  generalize sWeb = C0 at *
  generalize sUp = C1 at *
  go_enter Tryd.func65, Tryd.ntmps65
  go_wp2_with fail
  refine wp_loop_rounds 3 ?_
  rw [rounds_succ]
  go_wp2_with fail
  refine (HI.out _ HM.out).mono ?_
  rintro e w0 ⟨rfl, hw0⟩
  obtain rfl : w = w0 := hw0.symm
  go_wp2_with (with_reducible show wpList _ _ _ (⟨some 20, _, _, _, _, _⟩ :: _) _ _; go_must (refine wpList_append_onet rfl (.tmp 15) (.tmp 19) 32 rfl w.heap.size 9 (.string ⟨#[]⟩) 16 Tryd.underlying32 (by kernel_rfl) rfl (by omega) _ ([]) rfl (OwnL.keepsT (S := fun _ => False) (OwnL.none_ _ _ _) ((Keeps.refl _ _).alloc _) (fun _ _ _ => id)) ⟨w.heap.size, 0, none⟩ 1 (.string C0) rfl ((Blk.new _ _ _).cell 0) rfl (by simp) (by simp) ?_; intro v1 w1 O1 k1))
  obtain ⟨a1, c1, rfl⟩ := O1.sl'
  have K1 : Keeps (fun _ => False) w w1 := ((Keeps.refl _ w).alloc _).and_ k1 (fun i hi h => by omega)
  have HO1 := Lib.hid O1
  have HK1 := Lib.hid K1
  clear O1 k1 K1
  go_wp2_with fail
  refine (HT1.out _).mono ?_
  rintro e w0 ⟨rfl, hw0⟩
  obtain rfl : w1 = w0 := hw0.symm
  go_wp2_with fail
  rw [rounds_succ]
  go_wp2_with fail
  refine (HJ.out _ (HM.out.keeps HK1.out)).mono ?_
  rintro e w0 ⟨rfl, hw0⟩
  obtain rfl : w1 = w0 := hw0.symm
  go_wp2_with (with_reducible show wpList _ _ _ (⟨some 20, _, _, _, _, _⟩ :: _) _ _; go_must (refine wpList_append_onet rfl (.tmp 15) (.tmp 19) 32 rfl w.heap.size 9 (.string ⟨#[]⟩) 16 Tryd.underlying32 (by kernel_rfl) rfl (by omega) _ ([Value.string C0]) rfl (OwnL.keepsT (S := fun _ => False) (HO1.out) ((Keeps.refl _ _).alloc _) (fun _ _ _ => id)) ⟨w1.heap.size, 0, none⟩ 1 (.string C1) rfl ((Blk.new _ _ _).cell 0) rfl (by simp) (by have := HK1.out.size; simp; omega) ?_; intro v2 w2 O2 k2))
  obtain ⟨a2, c2, rfl⟩ := O2.sl'
  have K2 : Keeps (fun _ => False) w w2 := (HK1.out.alloc _).and_ k2 (fun i hi h => by omega)
  have HO2 := Lib.hid O2
  have HK2 := Lib.hid K2
  clear O2 k2 K2
  go_wp2_with fail
  refine (HT2.out _).mono ?_
  rintro e w0 ⟨rfl, hw0⟩
  obtain rfl : w2 = w0 := hw0.symm
  go_wp2_with fail
  rw [rounds_succ]
  go_wp2_with fail
  refine (HK.out _ (HM.out.keeps HK2.out)).mono ?_
  rintro e w0 ⟨rfl, hw0⟩
  obtain rfl : w2 = w0 := hw0.symm
  go_wp2_with (with_reducible show wpList _ _ _ (⟨some 14, _, _, _, _, _⟩ :: _) _ _; go_must (refine wpList_append_onet rfl (.tmp 11) (.tmp 13) 32 rfl w.heap.size 9 (.string ⟨#[]⟩) 16 Tryd.underlying32 (by kernel_rfl) rfl (by omega) _ ([Value.string C0, Value.string C1]) rfl (OwnL.keepsT (S := fun _ => False) (HO2.out) ((Keeps.refl _ _).alloc _) (fun _ _ _ => id)) ⟨w2.heap.size, 0, none⟩ 1 (.string L2) rfl ((Blk.new _ _ _).cell 0) rfl (by simp) (by have := HK2.out.size; simp; omega) ?_; intro v3 w3 O3 k3))
  obtain ⟨a3, c3, rfl⟩ := O3.sl'
  have K3 : Keeps (fun _ => False) w w3 := (HK2.out.alloc _).and_ k3 (fun i hi h => by omega)
  have HO3 := Lib.hid O3
  have HK3 := Lib.hid K3
  clear O3 k3 K3
  go_wp2_with fail
  go_ret
  exact ⟨⟨_, rfl, HO3.out⟩, HK3.out⟩
end Go.Proofs.YtgpfmkkkpdpdfaaDoor
