/-
  Package mux: Data, Told.
-/
import Derived.Test.YtcblaeleaebinaaChecked
import Derived.Test.YtcblaeleaebinaaOwnT
import Derived.Lib.OthersKept
import Derived.Laws.AppendOwn
namespace Go.Proofs.Ytcblaeleaebinaa
open Go.RowKit

/-- each sign twice -/
def dblP (l : List UInt8) : List UInt8 := l.flatMap fun c => if c = 255 then [255, 255] else [c]
theorem dblP_snoc (l : List UInt8) (c : UInt8) : dblP (l ++ [c]) = dblP l ++ (if c = 255 then [255, 255] else [c]) := by
  unfold dblP; rw [List.flatMap_append]; simp
theorem dblP_len (l : List UInt8) : (dblP l).length ≤ 2 * l.length := by
  unfold dblP
  induction l with
  | nil => simp
  | cons c t ih => rw [List.flatMap_cons, List.length_append]; split <;> simp only [List.length_cons, List.length_nil] <;> omega

set_option maxRecDepth 100000 in
set_option maxHeartbeats 2000000 in
theorem doubled_any (w : World) (B : Nat) (v : Value) (l : List UInt8) (s : ByteArray) (hO : OwnL w B 5 v (u8Vs l)) (hB : B ≤ w.heap.size) (hs : l.length + 2 * s.size ≤ 8589934592) :
    Calls Try.prog 57 #[v, .string s] w fun e w' => (∃ v', e = .returned v' ∧ OwnL w' B 5 v' (u8Vs (l ++ dblP s.data.toList))) ∧ Keeps (fun i => B ≤ i ∧ ∃ cs, Blk w i 5 cs) w w' := by
  have hl : s.data.toList.length = s.size := by simp
  obtain ⟨av0, cv0, rfl⟩ := hO.sl'
  rw [u8Vs_len] at hO ⊢
  have HO0 := Lib.hid hO
  go_enter Try.func57, Try.ntmps57
  go_wp2_with fail
  go_loopw [0, 8] (fun u0 u8 wr => ∃ k : Nat, k ≤ s.size ∧ u8 = .int .i64 k ∧ OwnL wr B 5 u0 (u8Vs (l ++ dblP (s.data.toList.take k))) ∧ Keeps (fun i => B ≤ i ∧ ∃ cs, Blk w i 5 cs) w wr) (fun _ u8 _ => s.size - (intOf u8).toNat)
  case atStart => exact ⟨0, Nat.zero_le _, rfl, by simpa [dblP] using HO0.out, Keeps.refl _ _⟩
  case round =>
    obtain ⟨k, hk, rfl, hOw, hK⟩ := hrel
    obtain ⟨av, cv, rfl⟩ := hOw.sl'
    have hkl : (l ++ dblP (s.data.toList.take k)).length ≤ l.length + 2 * k := by
      have := dblP_len (s.data.toList.take k)
      simp at this ⊢; omega
    rw [u8Vs_len] at hOw ⊢
    have HO := Lib.hid hOw
    have hBr : B ≤ wr.heap.size := Nat.le_trans hB hK.size
    clear hOw
    by_cases hp : k < s.size
    · obtain ⟨c, hc⟩ : ∃ c, s.data.toList[k]? = some c := ⟨_, List.getElem?_eq_getElem (by omega)⟩
      have hsc : s[k] = c := by
        have := (List.getElem?_eq_some_iff.1 hc).2
        rw [← this]; rfl
      have htk : dblP (s.data.toList.take (k + 1)) = dblP (s.data.toList.take k) ++ (if c = 255 then [255, 255] else [c]) := by rw [List.take_add_one, hc, ← dblP_snoc]; rfl
      obtain ⟨xs, hxs⟩ : ∃ xs, xs = l ++ dblP (s.data.toList.take k) := ⟨_, rfl⟩
      rw [← hxs] at HO hkl ⊢
      have HTK := Lib.hid htk
      have HXS := Lib.hid hxs
      clear hc htk hxs
      by_cases he : c = 255
      · subst he
        go_wp2_with (first
          | (with_reducible show wpList _ _ _ (⟨some 17, _, _, _, _, _⟩ :: _) _ _; go_must (refine wpList_append_onet rfl (.tmp 15) (.tmp 16) 55 rfl B 5 (.int .u8 0) 1 Try.underlying55 (by kernel_rfl) rfl (by omega) _ (u8Vs xs) rfl (OwnL.keepsT (S := fun _ => False) HO.out ((Keeps.refl _ _).alloc _) (fun _ _ _ => id)) ⟨wr.heap.size, 0, none⟩ 1 (.int .u8 255) rfl ((Blk.new _ _ _).cell 0) rfl (by rw [u8Vs_len]; omega) (by simp; omega) ?_; intro v7 w7 O7 k7; have hB7 := Nat.le_trans hBr (Nat.le_trans (by simp) k7.size)))
          | (with_reducible show wpList _ _ _ (⟨some 23, _, _, _, _, _⟩ :: _) _ _; go_must (refine wpList_append_onet rfl (.tmp 18) (.tmp 22) 55 rfl B 5 (.int .u8 0) 1 Try.underlying55 (by kernel_rfl) rfl (by omega) _ (u8Vs xs ++ [.int .u8 255]) rfl (OwnL.keepsT (S := fun _ => False) O7 ((Keeps.refl _ _).alloc _) (fun _ _ _ => id)) ⟨w7.heap.size, 0, none⟩ 1 (.int .u8 255) rfl ((Blk.new _ _ _).cell 0) rfl (by rw [List.length_append, u8Vs_len]; simp; omega) (by simp; omega) ?_; intro v8 w8 O8 k8)))
        go_roundw
        case rel =>
          refine ⟨k + 1, by omega, by go_num, ?_, grow_trans hK (grow_trans (grow_alloc _ k7) (grow_alloc _ k8))⟩
          rw [HTK.out, ← List.append_assoc, ← HXS.out]
          simpa [u8Vs] using O8
        case measure => simp [intOf] <;> omega
      · have hn : c.toNat ≠ 255 := fun h => he (UInt8.toNat_inj.1 (by simpa using h))
        have h1 : ((c.toNat : Int) == 255) = false := by rw [beq_eq_false_iff_ne]; omega
        have HE := Lib.hid he
        clear he
        go_wp2_with (with_reducible show wpList _ _ _ (⟨some 23, _, _, _, _, _⟩ :: _) _ _; go_must (refine wpList_append_onet rfl (.tmp 18) (.tmp 22) 55 rfl B 5 (.int .u8 0) 1 Try.underlying55 (by kernel_rfl) rfl (by omega) _ (u8Vs xs) rfl (OwnL.keepsT (S := fun _ => False) HO.out ((Keeps.refl _ _).alloc _) (fun _ _ _ => id)) ⟨wr.heap.size, 0, none⟩ 1 (.int .u8 c.toNat) rfl ((Blk.new _ _ _).cell 0) rfl (by rw [u8Vs_len]; omega) (by simp; omega) ?_; intro v7 w7 O7 k7))
        go_roundw
        case rel =>
          refine ⟨k + 1, by omega, by go_num, ?_, grow_trans hK (grow_alloc _ k7)⟩
          rw [HTK.out, if_neg HE.out, ← List.append_assoc, ← HXS.out]
          simpa [u8Vs] using O7
        case measure => simp [intOf] <;> omega
    · have hk2 : k = s.size := by omega
      subst hk2
      go_wp2_with fail
      go_ret
      refine ⟨⟨_, rfl, ?_⟩, hK⟩
      have := HO.out
      rw [List.take_of_length_le (by omega)] at this ⊢
      exact this

set_option maxRecDepth 100000 in
theorem data_any (w : World) (s : ByteArray) (hs : s.size ≤ 1073741824) :
    Calls Try.prog 55 #[.string s] w fun e w' => e = .returned (.string (str (dblP s.data.toList))) ∧ Keeps (fun _ => False) w w' := by
  have hO := OwnL.none_ w w.heap.size 5
  go_enter Try.func55, Try.ntmps55
  go_wp2_with fail
  refine (doubled_any w w.heap.size _ [] s hO (Nat.le_refl _) (by simp; omega)).mono ?_
  rintro e w2 ⟨⟨v', rfl, hO2⟩, k2⟩
  rw [List.nil_append] at hO2
  go_wp2_with (with_reducible show wpList _ _ _ (⟨some 5, _, _, _, _, _⟩ :: _) _ _; go_must (refine wpList_string_own rfl (.tmp 4) 55 9 rfl 5 Try.underlying55 Try.underlying5 Try.underlying9 w.heap.size v' _ rfl (by unfold u8Vs at hO2; exact hO2) ?_))
  go_ret
  exact ⟨rfl, k2.mono fun i hi h => by omega⟩

/-- a reply as it is sent -/
def toldP (l : List UInt8) : List UInt8 := [255, 1] ++ dblP l ++ [255, 2]

theorem OwnL.of2 (w : World) (e : TypeId) (u v : Value) : OwnL (w.alloc (.cells #[u, v] e)) w.heap.size e (.slice (some ⟨w.heap.size, 0, none⟩) 2 2) [u, v] :=
  ⟨rfl, .inr ⟨w.heap.size, 2, #[u, v], rfl, Nat.le_refl _, heap_alloc_new w _, Nat.le_refl _, by decide, rfl, rfl⟩⟩

set_option maxRecDepth 100000 in
theorem told_any (w : World) (s : ByteArray) (hs : s.size ≤ 1073741824) :
    Calls Try.prog 41 #[.string s] w fun e w' => e = .returned (.string (str (toldP s.data.toList))) ∧ Keeps (fun _ => False) w w' := by
  have hl : s.data.toList.length = s.size := by simp
  have hd := dblP_len s.data.toList
  have hO := OwnL.of2 w 5 (.int .u8 255) (.int .u8 1)
  obtain ⟨i0, hi, hz0, hz1, hz2⟩ := info_parts (show (Try.prog.info? 5).map (fun i => (i.zero, i.size, i.bytes)) = some (some (.int .u8 0), 1, 1) by kernel_rfl)
  have HO := Lib.hid hO
  clear hO
  go_enter Try.func41, Try.ntmps41
  go_wp2_with fail
  refine (doubled_any _ w.heap.size _ [255, 1] s HO.out (by simp) (by simp; omega)).mono ?_
  rintro e w2 ⟨⟨v', rfl, hO2⟩, k2⟩
  have K2 := grow_alloc _ k2
  clear k2
  obtain ⟨ys, hys⟩ : ∃ ys, ys = [255, 1] ++ dblP s.data.toList := ⟨_, rfl⟩
  rw [← hys] at hO2
  have hyl : ys.length ≤ 2 + 2 * s.size := by rw [hys]; simp; omega
  have HYS := Lib.hid hys
  obtain ⟨a2, c2, rfl⟩ := hO2.sl'
  rw [u8Vs_len] at hO2 ⊢
  have H2 := Lib.hid hO2
  clear hys
  have hs2 := K2.size
  have H8 : (w2.alloc (.cells #[.int .u8 255, .int .u8 2] 5)).ownsRow w.heap.size 5 1 (.slice a2 ys.length c2) (u8Vs ys).length (u8Vs ys) := OwnL.keepsT (S := fun _ => False) H2.out ((Keeps.refl _ _).alloc _) (fun _ _ _ => id)
  have HH8 := Lib.hid H8
  clear hO2 H8
  go_wp2_with (with_reducible show wpList _ _ _ (⟨some 9, _, _, _, _, _⟩ :: _) _ _; go_must (refine wpList_append_own _ rfl (.tmp 7) (.tmp 8) 55 rfl w.heap.size 5 i0 (.int .u8 0) 1 1 Try.underlying55 hi hz0 hz1 hz2 rfl (by decide) (.slice a2 ys.length c2) (u8Vs ys).length (u8Vs ys) rfl HH8.out ⟨w2.heap.size, 0, none⟩ 2 2 [.int .u8 255, .int .u8 2] rfl rfl ?c1 ?c2 ?c3 ?c4 ?c5 ?_))
  case c1 =>
    intro j u hj
    match j, hj with
    | 0, hj => simp at hj; subst hj; simp [Addr.add]
    | 1, hj => simp at hj; subst hj; simp [Addr.add]
  case c2 => intro u hu; simp at hu; rcases hu with rfl | rfl <;> rfl
  case c3 => rw [u8Vs_len]; unfold maxLen; omega
  case c4 => rw [u8Vs_len]; omega
  case c5 => simp; omega
  intro v' w3 hown' hgrow _
  have hO3 : OwnL w3 w.heap.size 5 v' ((toldP s.data.toList).map fun c => Value.int .u8 c.toNat) := by
    have he : (toldP s.data.toList).map (fun c => Value.int .u8 c.toNat) = u8Vs ys ++ [.int .u8 255, .int .u8 2] := by unfold toldP u8Vs; rw [HYS.out]; simp
    rw [he]
    have := hown'
    unfold OwnL
    rw [List.length_append]
    exact this
  go_wp2_with (with_reducible show wpList _ _ _ (⟨some 10, _, _, _, _, _⟩ :: _) _ _; go_must (refine wpList_string_own rfl (.tmp 9) 55 9 rfl 5 Try.underlying55 Try.underlying5 Try.underlying9 w.heap.size v' _ rfl hO3 ?_))
  go_ret
  refine ⟨rfl, ?_⟩
  exact ((K2.mono fun i hi h => by omega).alloc _).grown hgrow fun k hk hlt => by
    have := HH8.out.lt k hk
    omega
end Go.Proofs.Ytcblaeleaebinaa
