/-
  The document's desk (wheelhouseref32): Show, Cut.
-/
import Derived.Test.YtcblaeleaebinaaRef32
namespace Go.Proofs.Ytcblaeleaebinaa
open Go.RowKit

/-- the marks of the document -/
def emark (f : Flow) : List UInt8 := f.map fun c => if c.2 then 101 else 46
theorem emark_app (a b : Flow) : emark (a ++ b) = emark a ++ emark b := by unfold emark; rw [List.map_append]
theorem emark_len (a : Flow) : (emark a).length = a.length := by unfold emark; simp
theorem dblF_snoc (l : List UInt8) (c : UInt8) : dblF (l ++ [c]) = dblF l ++ (if c = 255 then [(255, false), (255, true)] else [(c, true)]) := by rw [dblF_app]; congr 1; unfold dblF; simp

section
variable (w : World) (a e : ByteArray) (k : Nat) (m : Int)
set_option maxRecDepth 100000 in
set_option maxHeartbeats 2000000 in
theorem rshow32 (s : ByteArray) (hs : s.size ≤ 1048576) (ha : a.size ≤ 1099511627776) (he : e.size ≤ 1073741824) :
    Calls Try.prog 18 #[D32 a e k m, .string s] w fun x w' => x = .returned (D32 (a ++ str (dblP s.data.toList)) (str (e.data.toList ++ emark (dblF s.data.toList))) k m) ∧ Keeps (fun _ => False) w w' := by
  unfold D32
  have hl : s.data.toList.length = s.size := by simp
  have htl := dblP_len s.data.toList
  rw [hl] at htl
  have ht := fun w => rdata_any w s (by omega)
  obtain ⟨T, hT⟩ : ∃ T, T = dblP s.data.toList := ⟨_, rfl⟩
  rw [← hT] at htl
  simp only [← hT] at ht ⊢
  have HT := Lib.hid ht
  have HL := Lib.hid hl
  clear ht hT hl
  have hTs : (str T).size = T.length := rfl
  go_enter Try.func18, Try.ntmps18
  go_wp2_with fail
  obtain ⟨b0, b1, k0⟩ := boxes32 (w := w) (T := 38) (a := .string a) (b := .string e) (c := .int .i64 k) (d := .int .i64 m) (a' := .string ⟨#[]⟩) (b' := .string ⟨#[]⟩) (c' := .int .i64 0) (d' := .int .i64 0) rfl
  obtain ⟨W0, hW0⟩ : ∃ W0, W0 = (w.alloc (Obj.cells #[Value.string a, Value.string e, Value.int .i64 k, Value.int .i64 m] 38)).alloc (Obj.cells #[Value.string ⟨#[]⟩, Value.string ⟨#[]⟩, Value.int .i64 0, Value.int .i64 0] 38) := ⟨_, rfl⟩
  rw [← hW0] at b0 b1 k0 ⊢
  have c0 := b0.cell 0
  have f0 := b0.frozen 0
  simp at c0
  have HB0 := Lib.hid b0
  have HB1 := Lib.hid b1
  have HK0 := Lib.hid k0
  have hsz0 := b1.lt
  clear b0 b1 k0 hW0
  go_region_with ((go_at_call 14; go_must (refine (HT.out _).mono ?_; rintro x w3 ⟨rfl, k3⟩; have kk : Keeps (fun _ => False) W0 w3 := Keeps.trans (by (repeat (first | (with_reducible assumption) | (with_reducible exact Keeps.refl _ _) | refine Keeps.drew ?_ | refine Keeps.drewN ?_ _ | refine Keeps.setCell ?_ (by simp) _ | refine Keeps.setRow ?_ (by simp) _ | refine Keeps.alloc ?_ _))) k3; have B0 := HB0.out.keeps kk id; have c03 := B0.cell 0; have f03 := B0.frozen 0; simp at c03; clear B0)))
  all_goals
    have kk : Keeps (fun _ => False) W0 w3 := k3.from_drew
    obtain ⟨w4, hw4⟩ : ∃ w4, w4 = w3.setCell ⟨w.heap.size, 0, none⟩ (.string (a ++ str T)) := ⟨_, rfl⟩
    rw [← hw4]
    have B4 : Blk w4 w.heap.size 38 #[.string (a ++ str T), .string e, .int .i64 k, .int .i64 m] := by
      rw [hw4]
      have := (HB0.out.keeps kk id).set_ 0 (.string (a ++ str T))
      simpa using this
    have C4 : Blk w4 (w.heap.size + 1) 38 #[.string ⟨#[]⟩, .string ⟨#[]⟩, .int .i64 0, .int .i64 0] := by
      rw [hw4]
      exact (HB1.out.keeps kk id).far (p := ⟨w.heap.size, 0, none⟩) (by simp) _
    have K4 : Keeps (fun _ => False) w w4 := by
      rw [hw4]
      exact (HK0.out.trans kk).setNew (Nat.le_refl _) _
    have hsz4 := C4.lt
    have c1 := B4.cell 1
    simp at c1
    have HB4 := Lib.hid B4
    have HC4 := Lib.hid C4
    have HK4 := Lib.hid K4
    clear B4 C4 K4 hw4 kk k3 c0 f0 c03 f03
    go_wp2_with (with_reducible show wpList _ _ _ (⟨some 15, _, _, _, _, _⟩ :: _) _ _; go_must (refine wpList_bytes_z rfl (w.heap.size + 2) _ 9 55 rfl 5 Try.underlying9 Try.underlying55 Try.underlying5 (by omega) e rfl (by omega) ?_; intro v7 w7 O7 k7))
    have hsz7 : w.heap.size + 2 ≤ w7.heap.size := by have := k7.size; omega
    have HO7 := Lib.hid O7
    have HK7 := Lib.hid k7
    clear O7 k7 c1
    go_loopw [5, 6] (fun u5 u6 wr => ∃ j : Nat, j ≤ s.size ∧ u6 = .int .i64 j ∧ OwnZ wr (w.heap.size + 2) 5 u5 (u8Vs (e.data.toList ++ emark (dblF (s.data.toList.take j)))) ∧ Keeps (fun i => w.heap.size + 2 ≤ i) w7 wr) (fun _ u6 _ => s.size - (intOf u6).toNat)
    case atStart => exact ⟨0, by omega, rfl, by simpa [dblF, emark] using HO7.out, Keeps.refl _ _⟩
    case round =>
      obtain ⟨j, hj, rfl, hO, hK⟩ := hrel
      have hel : e.data.toList.length = e.size := by simp
      have hdl := dblP_len (s.data.toList.take j)
      have htk : (s.data.toList.take j).length ≤ j := by simp; omega
      have hbl : (u8Vs (e.data.toList ++ emark (dblF (s.data.toList.take j)))).length ≤ 17179869183 := by rw [u8Vs_len, List.length_append, emark_len, dblF_len, hel]; omega
      have hszr : w.heap.size + 2 ≤ wr.heap.size := Nat.le_trans hsz7 hK.size
      obtain ⟨ys, hys⟩ : ∃ ys, ys = e.data.toList ++ emark (dblF (s.data.toList.take j)) := ⟨_, rfl⟩
      rw [← hys] at hO hbl
      have HO := Lib.hid hO
      have HK := Lib.hid hK
      have HBL := Lib.hid hbl
      have HYS := Lib.hid hys
      clear hO hK hel hbl hdl htk hys
      by_cases hlt : j < s.size
      · obtain ⟨c, hc⟩ : ∃ c, s.data.toList[j]? = some c := ⟨_, List.getElem?_eq_getElem (by rw [HL.out]; omega)⟩
        have hsc : s[j] = c := by
          have := (List.getElem?_eq_some_iff.1 hc).2
          rw [← this]; rfl
        have hst : e.data.toList ++ emark (dblF (s.data.toList.take (j + 1))) = ys ++ emark (if c = 255 then [(255, false), (255, true)] else [(c, true)]) := by
          rw [List.take_add_one, hc]
          show _ ++ emark (dblF (s.data.toList.take j ++ [c])) = _
          rw [dblF_snoc, emark_app, ← List.append_assoc, ← HYS.out]
        have HST := Lib.hid hst
        clear hc hst
        by_cases h255 : c = 255
        · subst h255
          go_wp2_with (first
            | (with_reducible show wpList _ _ _ (⟨some 28, _, _, _, _, _⟩ :: _) _ _; go_must (refine wpList_append_z rfl (w.heap.size + 2) (.tmp 26) (.tmp 27) 55 rfl 5 (.int .u8 0) 1 Try.underlying55 (by kernel_rfl) rfl (by omega) (by simp; omega) _ (u8Vs ys) rfl (OwnZ.keeps (S := fun _ => False) HO.out ((Keeps.refl _ _).alloc _) (fun _ _ _ => id)) ⟨wr.heap.size, 0, none⟩ 1 (.int .u8 46) rfl ((Blk.new _ _ _).cell 0) rfl (by have := HBL.out; omega) ?_; intro v8 w8 O8 k8; have HO8 := Lib.hid O8; have HK8 := Lib.hid k8; clear O8 k8))
            | (with_reducible show wpList _ _ _ (⟨some 31, _, _, _, _, _⟩ :: _) _ _; go_must (refine wpList_append_z rfl (w.heap.size + 2) (.tmp 29) (.tmp 30) 55 rfl 5 (.int .u8 0) 1 Try.underlying55 (by kernel_rfl) rfl (by omega) (by have := HK8.out.size; simp at this ⊢; omega) _ (u8Vs ys ++ [.int .u8 46]) rfl (OwnZ.keeps (S := fun _ => False) HO8.out ((Keeps.refl _ _).alloc _) (fun _ _ _ => id)) ⟨w8.heap.size, 0, none⟩ 1 (.int .u8 101) rfl ((Blk.new _ _ _).cell 0) rfl (by have := HBL.out; rw [List.length_append]; simp; omega) ?_; intro v9 w9 O9 k9; have HO9 := Lib.hid O9; have HK9 := Lib.hid k9; clear O9 k9)))
          go_roundw
          case rel =>
            refine ⟨j + 1, by omega, by go_num, ?_, ?_⟩
            · have := HO9.out
              rw [HST.out, if_pos rfl]
              unfold u8Vs at this ⊢
              simpa [emark] using this
            · exact (HK.out.trans (((Keeps.refl _ wr).alloc _).trans HK8.out)).trans (((Keeps.refl _ w8).alloc _).trans HK9.out)
          case measure => simp [intOf]; omega
        · have hn : c.toNat ≠ 255 := fun h => h255 (UInt8.toNat_inj.1 (by simpa using h))
          have h1 : ((c.toNat : Int) == 255) = false := by rw [beq_eq_false_iff_ne]; omega
          have HE := Lib.hid h255
          clear h255
          go_wp2_with (with_reducible show wpList _ _ _ (⟨some 31, _, _, _, _, _⟩ :: _) _ _; go_must (refine wpList_append_z rfl (w.heap.size + 2) (.tmp 29) (.tmp 30) 55 rfl 5 (.int .u8 0) 1 Try.underlying55 (by kernel_rfl) rfl (by omega) (by simp; omega) _ (u8Vs ys) rfl (OwnZ.keeps (S := fun _ => False) HO.out ((Keeps.refl _ _).alloc _) (fun _ _ _ => id)) ⟨wr.heap.size, 0, none⟩ 1 (.int .u8 101) rfl ((Blk.new _ _ _).cell 0) rfl (by have := HBL.out; omega) ?_; intro v9 w9 O9 k9; have HO9 := Lib.hid O9; have HK9 := Lib.hid k9; clear O9 k9))
          go_roundw
          case rel =>
            refine ⟨j + 1, by omega, by go_num, ?_, ?_⟩
            · have := HO9.out
              rw [HST.out, if_neg HE.out]
              unfold u8Vs at this ⊢
              simpa [emark] using this
            · exact (HK.out.trans (((Keeps.refl _ wr).alloc _).trans HK9.out))
          case measure => simp [intOf]; omega
      · obtain rfl : j = s.size := by omega
        have hys2 : ys = e.data.toList ++ emark (dblF s.data.toList) := by rw [HYS.out, List.take_of_length_le (by rw [HL.out]; omega)]
        have B9 := (HB4.out.keeps HK7.out id).keeps HK.out (by omega)
        have C9 := (HC4.out.keeps HK7.out id).keeps HK.out (by omega)
        obtain ⟨c0, c1, c2, c3, f0, f1, -, -⟩ := B9.cells4
        obtain ⟨d0, d1, d2, d3, g0, g1, g2, g3⟩ := C9.cells4
        have HB9 := Lib.hid B9
        have HC9 := Lib.hid C9
        have HYS2 := Lib.hid hys2
        clear B9 C9 hys2
        go_wp2_with (with_reducible show wpList _ _ _ (⟨some 33, _, _, _, _, _⟩ :: _) _ _; go_must (refine wpList_string_z rfl (w.heap.size + 2) (.tmp 32) 55 9 rfl 5 Try.underlying55 Try.underlying5 Try.underlying9 u5 ys rfl HO.out ?_))
        refine ret_cell rfl (w.heap.size + 1) 38 _ _ rfl (((((HC9.out.far (p := ⟨w.heap.size, 1, none⟩) (by simp) _).set_ 0 _).set_ 1 _).set_ 2 _).set_ 3 _) Try.underlying38 rfl (by kernel_rfl) rfl ⟨?_, ?_⟩
        · rw [← HYS2.out]; simp
        · have K8 : Keeps (fun _ => False) w wr := (HK4.out.trans HK7.out).and_ HK.out (fun i hi e => by omega)
          exact ((((K8.setNew (Nat.le_refl _) _).setNew (Nat.le_succ _) _).setNew (Nat.le_succ _) _).setNew (Nat.le_succ _) _).setNew (Nat.le_succ _) _
end
end Go.Proofs.Ytcblaeleaebinaa
