/-
  The document's Data and Told (wheelhouseref28).
-/
import Derived.Test.YtcblaeleaebinaaMux
namespace Go.Proofs.Ytcblaeleaebinaa
open Go.RowKit

set_option maxRecDepth 100000 in
set_option maxHeartbeats 2000000 in
theorem rdata_any (w : World) (s : ByteArray) (hs : s.size ≤ 1073741824) :
    Calls Try.prog 14 #[.string s] w fun e w' => e = .returned (.string (str (dblP s.data.toList))) ∧ Keeps (fun _ => False) w w' := by
  have hl : s.data.toList.length = s.size := by simp
  have HO0 := Lib.hid (OwnL.none_ w w.heap.size 5)
  go_enter Try.func14, Try.ntmps14
  go_wp2_with fail
  go_loopw [3, 4] (fun u0 u8 wr => ∃ k : Nat, k ≤ s.size ∧ u8 = .int .i64 k ∧ OwnL wr w.heap.size 5 u0 (u8Vs (dblP (s.data.toList.take k))) ∧ Keeps (fun _ => False) w wr) (fun _ u8 _ => s.size - (intOf u8).toNat)
  case atStart => exact ⟨0, Nat.zero_le _, rfl, by simpa [dblP, u8Vs] using HO0.out, Keeps.refl _ _⟩
  case round =>
    obtain ⟨k, hk, rfl, hOw, hK⟩ := hrel
    obtain ⟨av, cv, rfl⟩ := hOw.sl'
    have hkl : (dblP (s.data.toList.take k)).length ≤ 2 * k := by
      have := dblP_len (s.data.toList.take k)
      simp at this ⊢; omega
    rw [u8Vs_len] at hOw ⊢
    have HO := Lib.hid hOw
    have hBr : w.heap.size ≤ wr.heap.size := hK.size
    clear hOw
    by_cases hp : k < s.size
    · obtain ⟨c, hc⟩ : ∃ c, s.data.toList[k]? = some c := ⟨_, List.getElem?_eq_getElem (by omega)⟩
      have hsc : s[k] = c := by
        have := (List.getElem?_eq_some_iff.1 hc).2
        rw [← this]; rfl
      have htk : dblP (s.data.toList.take (k + 1)) = dblP (s.data.toList.take k) ++ (if c = 255 then [255, 255] else [c]) := by rw [List.take_add_one, hc, ← dblP_snoc]; rfl
      obtain ⟨xs, hxs⟩ : ∃ xs, xs = dblP (s.data.toList.take k) := ⟨_, rfl⟩
      rw [← hxs] at HO hkl ⊢
      have HTK := Lib.hid htk
      have HXS := Lib.hid hxs
      clear hc htk hxs
      by_cases he : c = 255
      · subst he
        go_wp2_with (first
          | (with_reducible show wpList _ _ _ (⟨some 17, _, _, _, _, _⟩ :: _) _ _; go_must (refine wpList_append_onet rfl (.tmp 15) (.tmp 16) 55 rfl w.heap.size 5 (.int .u8 0) 1 Try.underlying55 (by kernel_rfl) rfl (by omega) _ (u8Vs xs) rfl (OwnL.keepsT (S := fun _ => False) HO.out ((Keeps.refl _ _).alloc _) (fun _ _ _ => id)) ⟨wr.heap.size, 0, none⟩ 1 (.int .u8 255) rfl ((Blk.new _ _ _).cell 0) rfl (by rw [u8Vs_len]; omega) (by simp; omega) ?_; intro v7 w7 O7 k7; have hB7 := Nat.le_trans hBr (Nat.le_trans (by simp) k7.size)))
          | (with_reducible show wpList _ _ _ (⟨some 23, _, _, _, _, _⟩ :: _) _ _; go_must (refine wpList_append_onet rfl (.tmp 18) (.tmp 22) 55 rfl w.heap.size 5 (.int .u8 0) 1 Try.underlying55 (by kernel_rfl) rfl (by omega) _ (u8Vs xs ++ [.int .u8 255]) rfl (OwnL.keepsT (S := fun _ => False) O7 ((Keeps.refl _ _).alloc _) (fun _ _ _ => id)) ⟨w7.heap.size, 0, none⟩ 1 (.int .u8 255) rfl ((Blk.new _ _ _).cell 0) rfl (by rw [List.length_append, u8Vs_len]; simp; omega) (by simp; omega) ?_; intro v8 w8 O8 k8)))
        go_roundw
        case rel =>
          refine ⟨k + 1, by omega, by go_num, ?_, hK.and_ (grow_trans (grow_alloc _ k7) (grow_alloc _ k8)) (fun i hi h => by omega)⟩
          rw [HTK.out, ← HXS.out]
          simpa [u8Vs] using O8
        case measure => simp [intOf] <;> omega
      · have hn : c.toNat ≠ 255 := fun h => he (UInt8.toNat_inj.1 (by simpa using h))
        have h1 : ((c.toNat : Int) == 255) = false := by rw [beq_eq_false_iff_ne]; omega
        have HE := Lib.hid he
        clear he
        go_wp2_with (with_reducible show wpList _ _ _ (⟨some 23, _, _, _, _, _⟩ :: _) _ _; go_must (refine wpList_append_onet rfl (.tmp 18) (.tmp 22) 55 rfl w.heap.size 5 (.int .u8 0) 1 Try.underlying55 (by kernel_rfl) rfl (by omega) _ (u8Vs xs) rfl (OwnL.keepsT (S := fun _ => False) HO.out ((Keeps.refl _ _).alloc _) (fun _ _ _ => id)) ⟨wr.heap.size, 0, none⟩ 1 (.int .u8 c.toNat) rfl ((Blk.new _ _ _).cell 0) rfl (by rw [u8Vs_len]; omega) (by simp; omega) ?_; intro v7 w7 O7 k7))
        go_roundw
        case rel =>
          refine ⟨k + 1, by omega, by go_num, ?_, hK.and_ (grow_alloc _ k7) (fun i hi h => by omega)⟩
          rw [HTK.out, if_neg HE.out, ← HXS.out]
          simpa [u8Vs] using O7
        case measure => simp [intOf] <;> omega
    · have hk2 : k = s.size := by omega
      subst hk2
      rw [List.take_of_length_le (by omega)] at HO ⊢
      have hO2 := HO.out
      unfold u8Vs at hO2
      have HO2 := Lib.hid hO2
      clear hO2
      go_wp2_with (with_reducible show wpList _ _ _ (⟨some 25, _, _, _, _, _⟩ :: _) _ _; go_must (refine wpList_string_own rfl (.tmp 24) 55 9 rfl 5 Try.underlying55 Try.underlying5 Try.underlying9 w.heap.size (.slice av (dblP s.data.toList).length cv) (dblP s.data.toList) rfl HO2.out ?_))
      go_ret
      exact ⟨rfl, hK⟩


theorem Keeps.cellq {w w' : World} (k : Keeps (fun _ => False) w w') : ∀ g j, g < w.heap.size → w'.cell? ⟨g, j, none⟩ = w.cell? ⟨g, j, none⟩ := fun g j hg => by
  unfold World.cell?; rw [k.block g hg id]

set_option maxRecDepth 100000 in
set_option maxHeartbeats 4000000 in
theorem rtold_any (w : World) (s : ByteArray) (hs : s.size ≤ 1073741824) :
    Calls Try.prog 26 #[.string s] w fun e w' => e = .returned (.string (str (toldP s.data.toList))) ∧ Keeps (fun _ => False) w w' := by
  go_enter Try.func26, Try.ntmps26
  obtain ⟨t1, ht1⟩ : ∃ t1 : ByteArray, t1 = ⟨#[255, 1]⟩ := ⟨_, rfl⟩
  obtain ⟨t2, ht2⟩ : ∃ t2 : ByteArray, t2 = ⟨#[255, 2]⟩ := ⟨_, rfl⟩
  have hcv : ∀ (x : UInt8) (w2 : World) (g : Nat), w2.cell? ⟨g, 0, none⟩ = some (.int .u8 255) → w2.cell? ⟨g, 1, none⟩ = some (.int .u8 x.toNat) → (convert 55 9 (.slice (some ⟨g, 0, none⟩) 2 2)).run Try.prog w2 = .ok (.string (str [255, x])) w2 := fun x w2 g h0 h1 =>
    run_string_bytes w2 55 9 5 ⟨g, 0, none⟩ 2 2 [255, x] Try.underlying55 Try.underlying5 Try.underlying9 rfl (fun j v hj => by
      match j, hj with
      | 0, hj => simp at hj; subst hj; simpa [Addr.add] using h0
      | 1, hj => simp at hj; subst hj; simpa [Addr.add] using h1)
  have hc1 : ∀ (w2 : World) (g : Nat), w2.cell? ⟨g, 0, none⟩ = some (.int .u8 255) → w2.cell? ⟨g, 1, none⟩ = some (.int .u8 1) → (convert 55 9 (.slice (some ⟨g, 0, none⟩) 2 2)).run Try.prog w2 = .ok (.string t1) w2 := fun w2 g h0 h1 => by rw [ht1]; exact hcv 1 w2 g h0 h1
  have hc2 : ∀ (w2 : World) (g : Nat), w2.cell? ⟨g, 0, none⟩ = some (.int .u8 255) → w2.cell? ⟨g, 1, none⟩ = some (.int .u8 2) → (convert 55 9 (.slice (some ⟨g, 0, none⟩) 2 2)).run Try.prog w2 = .ok (.string t2) w2 := fun w2 g h0 h1 => by rw [ht2]; exact hcv 2 w2 g h0 h1
  clear hcv
  have hz1 : t1.size = 2 := by rw [ht1]; rfl
  have hz2 : t2.size = 2 := by rw [ht2]; rfl
  have hz3 : (str (dblP s.data.toList)).size ≤ 2147483648 := by
    have := dblP_len s.data.toList
    rw [str_size]; simp at this; omega
  have hfin : t1 ++ str (dblP s.data.toList) ++ t2 = str (toldP s.data.toList) := by
    rw [ht1, ht2]; apply ba_ext; simp [toldP, str]
  have HFIN := Lib.hid hfin
  clear ht1 ht2 hfin
  go_wp2_with fail
  go_region_with ((go_at_call 14; go_must (refine (rdata_any _ s hs).mono ?_; rintro e w2 ⟨rfl, k2⟩; have kk : Keeps (fun _ => False) w w2 := Keeps.trans (by (repeat (first | (with_reducible assumption) | (with_reducible exact Keeps.refl _ _) | refine Keeps.drew ?_ | refine Keeps.drewN ?_ _ | refine Keeps.setCell ?_ (by simp) _ | refine Keeps.setRow ?_ (by simp) _ | refine Keeps.alloc ?_ _))) k2; have kc := k2.cellq; have ka := fun o => (k2.alloc o).cellq; try (first | (have q1 := (((Blk.new w 5 #[.int .u8 255, .int .u8 1]).alloc (.cells #[.int .u8 255, .int .u8 2] 5)).drew).keeps k2 id; have q2 := ((Blk.new (w.alloc (.cells #[.int .u8 255, .int .u8 1] 5)) 5 #[.int .u8 255, .int .u8 2]).drew).keeps k2 id; have f0 := q1.cell 0; have f1 := q1.cell 1; have f2 := q2.cell 0; have f3 := q2.cell 1; simp at f0 f1 f2 f3; clear q1 q2) | (have q1 := (((Blk.new w 5 #[.int .u8 255, .int .u8 2]).alloc (.cells #[.int .u8 255, .int .u8 1] 5)).drew).keeps k2 id; have q2 := ((Blk.new (w.alloc (.cells #[.int .u8 255, .int .u8 2] 5)) 5 #[.int .u8 255, .int .u8 1]).drew).keeps k2 id; have f0 := q1.cell 0; have f1 := q1.cell 1; have f2 := q2.cell 0; have f3 := q2.cell 1; simp at f0 f1 f2 f3; clear q1 q2)))))
  all_goals
    go_wp2
    go_ret
    exact ⟨by rw [HFIN.out] <;> rfl, by (repeat (first | (with_reducible assumption) | (with_reducible exact Keeps.refl _ _) | refine Keeps.drew ?_ | refine Keeps.drewN ?_ _ | refine Keeps.setCell ?_ (by simp) _ | refine Keeps.setRow ?_ (by simp) _ | refine Keeps.alloc ?_ _))⟩
end Go.Proofs.Ytcblaeleaebinaa
