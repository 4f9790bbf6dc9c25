/-
  The document's table: each row as a line.
-/
import Derived.Test.YtgpfmkkkpdpdfaaDoorTableR
namespace Go.Proofs.YtgpfmkkkpdpdfaaDoor
open Go.RowKit

theorem str_emp : str [] = ⟨#[]⟩ := rfl
theorem line_cat (l : List UInt8) (s : ByteArray) (n : Nat) : str l ++ str (s.data.toList ++ List.replicate n 32) = str (l ++ s.data.toList ++ List.replicate n 32) := by
  rw [str_catB, List.append_assoc]

set_option maxRecDepth 100000 in
set_option maxHeartbeats 2000000 in
theorem rtable_any (w : World) (a : Option Addr) (n c : Nat) (L : List (List ByteArray)) (h : Rows2 w a n L) (hn : n ≤ 4294967296) (h8 : ∀ l ∈ L, l.length ≤ 8) (hs : ∀ l ∈ L, ∀ s ∈ l, s.size ≤ 4294967296) :
    Calls Tryd.prog 22 #[.slice a n c] w fun e w' => (∃ v, e = .returned v ∧ OwnL w' w.heap.size 9 v ((tableP L).map Value.string)) ∧ Keeps (fun _ => False) w w' := by
  have hwsz : ∀ j, wideP L j ≤ 4294967296 := fun j => by
    have : ∀ (l : List (List ByteArray)) (m : Nat), m ≤ 4294967296 → (∀ x ∈ l, ∀ s ∈ x, s.size ≤ 4294967296) → l.foldl (fun n l => max n (colW l j)) m ≤ 4294967296 := by
      intro l
      induction l with
      | nil => intro m hm _; exact hm
      | cons x l ih =>
        intro m hm hx
        rw [List.foldl_cons]
        refine ih _ ?_ (fun y hy => hx y (by simp [hy]))
        have : colW x j ≤ 4294967296 := by
          unfold colW
          cases hj : x[j]? with
          | none => exact Nat.zero_le _
          | some s => exact hx x (by simp) s (List.mem_of_getElem? hj)
        omega
    exact this L 0 (by omega) hs
  have HWS := Lib.hid hwsz
  have HLN := Lib.hid h.1
  have H := Lib.hid h
  have H8 := Lib.hid h8
  have HSZ := Lib.hid hs
  clear h h8 hs hwsz
  go_enter Tryd.func22, Tryd.ntmps22
  go_wp2_with fail
  go_loopw [3, 4] (fun u3 u4 wr => ∃ (k : Nat), u4 = .int .i64 k ∧ Hid (k ≤ n ∧ OwnL wr w.heap.size 9 u3 (((L.take k).map (lineP L)).map Value.string) ∧ Keeps (fun _ => False) w wr)) (fun _ u4 _ => n - (intOf u4).toNat)
  case atStart => exact ⟨0, rfl, Lib.hid ⟨Nat.zero_le _, OwnL.none_ _ _ _, Keeps.refl _ _⟩⟩
  case round =>
    obtain ⟨k, rfl, HR⟩ := hrel
    rename World => W2
    by_cases hk : k < n
    · obtain ⟨l, hl⟩ : ∃ l, L[k]? = some l := ⟨_, List.getElem?_eq_getElem (by rw [HLN.out]; exact hk)⟩
      have hR2 := H.out.keeps HR.out.2.2 (fun _ _ => id)
      obtain ⟨b, off, a1, c1, rfl, hc1, hs1⟩ := hR2.at_ hl
      have hl8 : l.length ≤ 8 := H8.out l (List.mem_of_getElem? hl)
      have hlm := List.mem_of_getElem? hl
      have hlz := HSZ.out l hlm
      have HLZ := Lib.hid hlz
      have HLM := Lib.hid hlm
      have HLL := Lib.hid hl
      have HS1 := Lib.hid hs1
      have HR2 := Lib.hid hR2
      clear hl hs1 hlz hlm hR2
      go_wp2_with fail
      go_loopw [5, 6] (fun u5 u6 w3 => W2 = w3 ∧ ∃ (j : Nat), u6 = .int .i64 j ∧ u5 = .string (str (lineU L l j)) ∧ Hid (j ≤ l.length)) (fun _ u6 _ => l.length - (intOf u6).toNat)
      case atStart => exact ⟨rfl, 0, rfl, rfl, Lib.hid (Nat.zero_le _)⟩
      case round =>
        obtain ⟨rfl, j, rfl, rfl, HJ⟩ := hrel
        by_cases hj : j < l.length
        · obtain ⟨s, hs⟩ : ∃ s, l[j]? = some s := ⟨_, List.getElem?_eq_getElem hj⟩
          obtain ⟨b2, off2, rfl, hc2⟩ := HS1.out.at_ hs
          have hsz := HLZ.out s (List.mem_of_getElem? hs)
          have hst := lineU_step (L := L) hs
          have hln := lineU_len L l HWS.out (HLZ.out) j
          have hwz := HWS.out j
          have hge : s.size ≤ wideP L j := by have := wide_ge (i := j) HLM.out; rw [colW_some hs] at this; exact this
          have hw := rwide_any W2 _ _ c j L HR2.out hn H8.out HSZ.out
          obtain ⟨wd, hwd⟩ : ∃ wd, wd = wideP L j := ⟨_, rfl⟩
          rw [← hwd] at hge hst hwz hw
          obtain ⟨U, hU⟩ : ∃ U, U = str (lineU L l j) := ⟨_, rfl⟩
          have hUz : U.size ≤ 109951162777600 := by rw [hU, str_size]; omega
          rw [← hU]
          have HU := Lib.hid hU
          have HST := Lib.hid hst
          have HW := Lib.hid hw
          clear hst hs hln hwd hU hw
          by_cases hj0 : j = 0
          · have hsp := sep_zero hj0
            have hgt2 : (j : Int) ≤ 0 := by omega
            have HSP := Lib.hid hsp
            clear hsp hj0
            go_wp2_with fail
            clear hgt2
            generalize decide (0 < j) = bb
            go_loopw [7] (fun u7 w4 => W2 = w4 ∧ ∃ (q : Nat), q ≤ wd ∧ s.size ≤ q ∧ u7 = .string (str (s.data.toList ++ List.replicate (q - s.size) 32))) (fun u7 _ => wd - (Lib.strSize u7))
            case atStart => exact ⟨rfl, s.size, hge, Nat.le_refl _, by rw [Nat.sub_self, List.replicate_zero, List.append_nil]; rfl⟩
            case round =>
              obtain ⟨rfl, q, hq, hsq, rfl⟩ := hrel
              obtain ⟨T, hT⟩ : ∃ T, T = str (s.data.toList ++ List.replicate (q - s.size) 32) := ⟨_, rfl⟩
              have hTz : T.size = q := by
                rw [hT, str_size, List.length_append, List.length_replicate]
                have : s.data.toList.length = s.size := rfl
                omega
              rw [← hT]
              by_cases hqw : q < wd
              · have hT1 : T ++ ⟨#[32]⟩ = str (s.data.toList ++ List.replicate (q + 1 - s.size) 32) := by
                  rw [hT, show q + 1 - s.size = (q - s.size) + 1 by omega, ← rep_snoc, ← List.append_assoc, ← str_catB]; rfl
                have HT1 := Lib.hid hT1
                have HTZ := Lib.hid hTz
                have hq1 : ((T.size : Nat) : Int) = (q : Int) := by rw [hTz]
                have hTs : T.size ≤ 4294967296 := by omega
                have hlt : (T.size : Int) < (wd : Int) := by omega
                clear hT1 hT hTz hq1
                go_wp2_with fail
                refine HW.out.mono ?_
                rintro e w5 ⟨rfl, rfl⟩
                go_wp2_with fail
                go_roundw
                case rel => exact ⟨trivial, q + 1, by omega, by omega, by rw [← HT1.out]⟩
                case measure =>
                  have h1 : (T ++ ⟨#[32]⟩ : ByteArray).size = T.size + 1 := by rw [ByteArray.size_append]; rfl
                  have h2 := HTZ.out
                  simp only [Lib.strSize_string, h1]
                  omega
              · have hle : (wd : Int) ≤ (T.size : Int) := by omega
                have hUT : U ++ T = str (lineU L l (j + 1)) := by
                  have hq2 : q = wd := by omega
                  rw [HST.out, hT, hq2, HSP.out, HU.out]
                  rw [List.append_nil, line_cat]
                have HUT := Lib.hid hUT
                have hTs : T.size ≤ 4294967296 := by omega
                clear hUT hT hTz
                go_wp2_with fail
                refine HW.out.mono ?_
                rintro e w5 ⟨rfl, rfl⟩
                go_wp2_with fail
                go_roundw
                case rel => exact ⟨trivial, j + 1, by go_num, by rw [← HUT.out], Lib.hid (by omega)⟩
                case measure => simp [intOf]; omega
          · have hsp := sep_pos hj0
            have hgt2 : 0 < (j : Int) := by omega
            have HSP := Lib.hid hsp
            clear hsp hj0
            go_wp2_with fail
            clear hgt2
            go_loopw [7] (fun u7 w4 => W2 = w4 ∧ ∃ (q : Nat), q ≤ wd ∧ s.size ≤ q ∧ u7 = .string (str (s.data.toList ++ List.replicate (q - s.size) 32))) (fun u7 _ => wd - (Lib.strSize u7))
            case atStart => exact ⟨rfl, s.size, hge, Nat.le_refl _, by rw [Nat.sub_self, List.replicate_zero, List.append_nil]; rfl⟩
            case round =>
              obtain ⟨rfl, q, hq, hsq, rfl⟩ := hrel
              obtain ⟨T, hT⟩ : ∃ T, T = str (s.data.toList ++ List.replicate (q - s.size) 32) := ⟨_, rfl⟩
              have hTz : T.size = q := by
                rw [hT, str_size, List.length_append, List.length_replicate]
                have : s.data.toList.length = s.size := rfl
                omega
              rw [← hT]
              by_cases hqw : q < wd
              · have hT1 : T ++ ⟨#[32]⟩ = str (s.data.toList ++ List.replicate (q + 1 - s.size) 32) := by
                  rw [hT, show q + 1 - s.size = (q - s.size) + 1 by omega, ← rep_snoc, ← List.append_assoc, ← str_catB]; rfl
                have HT1 := Lib.hid hT1
                have HTZ := Lib.hid hTz
                have hq1 : ((T.size : Nat) : Int) = (q : Int) := by rw [hTz]
                have hTs : T.size ≤ 4294967296 := by omega
                have hlt : (T.size : Int) < (wd : Int) := by omega
                clear hT1 hT hTz hq1
                go_wp2_with fail
                refine HW.out.mono ?_
                rintro e w5 ⟨rfl, rfl⟩
                go_wp2_with fail
                go_roundw
                case rel => exact ⟨trivial, q + 1, by omega, by omega, by rw [← HT1.out]⟩
                case measure =>
                  have h1 : (T ++ ⟨#[32]⟩ : ByteArray).size = T.size + 1 := by rw [ByteArray.size_append]; rfl
                  have h2 := HTZ.out
                  simp only [Lib.strSize_string, h1]
                  omega
              · have hle : (wd : Int) ≤ (T.size : Int) := by omega
                have hUT : U ++ ⟨#[32, 32]⟩ ++ T = str (lineU L l (j + 1)) := by
                  have hq2 : q = wd := by omega
                  rw [HST.out, hT, hq2, HSP.out, HU.out]
                  rw [← line_cat, ← str_catB]; rfl
                have HUT := Lib.hid hUT
                have hTs : T.size ≤ 4294967296 := by omega
                clear hUT hT hTz
                go_wp2_with fail
                refine HW.out.mono ?_
                rintro e w5 ⟨rfl, rfl⟩
                go_wp2_with fail
                go_roundw
                case rel => exact ⟨trivial, j + 1, by go_num, by rw [← HUT.out], Lib.hid (by omega)⟩
                case measure => simp [intOf]; omega
        · have hjl : j = l.length := by have := HJ.out; omega
          subst hjl
          have hln := lineU_len L l HWS.out (HLZ.out) l.length
          obtain ⟨F, hF⟩ : ∃ F, F = lineU L l l.length := ⟨_, rfl⟩
          rw [← hF] at hln ⊢
          have hlp : lineP L l = str (Lib.trimRightB F 32) := by rw [hF]; rfl
          have HLP := Lib.hid hlp
          clear hF hlp
          have hO2 := HR.out.2.1
          have hvl : ((L.take k).map (lineP L)).length ≤ 4294967296 := by rw [List.length_map, List.length_take]; omega
          have HVL := Lib.hid hvl
          have HO2 := Lib.hid hO2
          clear hvl hO2
          go_wp2_with fail
          go_loopw [5] (fun u5 w4 => W2 = w4 ∧ ∃ G : List UInt8, u5 = .string (str G) ∧ G.length ≤ 109951162777600 ∧ Hid (Lib.trimRightB G 32 = Lib.trimRightB F 32)) (fun u5 _ => Lib.strSize u5)
          case atStart => exact ⟨rfl, F, rfl, by omega, Lib.hid rfl⟩
          case round =>
            obtain ⟨rfl, G, rfl, hGz, HG⟩ := hrel
            by_cases hG : G = []
            · subst hG
              have hemp : (str []).toList.isEmpty = true := by rw [ByteArray.toList_eq]; rfl
              have hF0 : str (Lib.trimRightB F 32) = ⟨#[]⟩ := by rw [← HG.out, trim_nil]; rfl
              have hln0 : lineP L l = ⟨#[]⟩ := HLP.out.trans hF0
              have HLE := Lib.hid hln0
              clear hF0 hln0
              go_wp2_with (with_reducible show wpList _ _ _ (⟨some 65, _, _, _, _, _⟩ :: _) _ _; go_must (refine wpList_append_onet rfl (.tmp 62) (.tmp 64) 32 rfl w.heap.size 9 (.string ⟨#[]⟩) 16 Tryd.underlying32 (by kernel_rfl) rfl (by omega) _ (((L.take k).map (lineP L)).map Value.string) rfl (OwnL.keepsT (S := fun _ => False) HO2.out ((Keeps.refl _ _).alloc _) (fun _ _ _ => id)) ⟨W2.heap.size, 0, none⟩ 1 (.string ⟨#[]⟩) rfl ((Blk.new _ _ _).cell 0) rfl (by rw [List.length_map]; have := HVL.out; omega) (by have := HR.out.2.2.size; simp; omega) ?_; intro v7 w7 O7 k7))
              go_roundw
              case rel =>
                refine ⟨k + 1, by go_num, Lib.hid ⟨by omega, ?_, ?_⟩⟩
                · rw [take_snoc HLL.out, List.map_append, List.map_append, List.map_cons, HLE.out]; exact O7
                · exact (HR.out.2.2.alloc _).and_ k7 (fun i hi h => by omega)
              case measure => simp [intOf]; omega
            · obtain ⟨x, hx⟩ : ∃ x, G.getLast? = some x := ⟨_, List.getLast?_eq_some_getLast hG⟩
              have hne : (str G).toList.isEmpty = false := by
                rw [ByteArray.toList_eq, str_list]
                cases G with
                | nil => exact absurd rfl hG
                | cons y ys => rfl
              obtain ⟨m, hm⟩ : ∃ m, G.length = m + 1 := ⟨G.length - 1, by have := List.length_pos_iff.2 hG; omega⟩
              obtain ⟨V, hV⟩ : ∃ V, V = str G := ⟨_, rfl⟩
              have hsz : V.size = m + 1 := by rw [hV, str_size, hm]
              have hgx : V.data.toList[m]? = some x := by rw [hV, str_list, ← hx, List.getLast?_eq_getElem?, hm]; rfl
              have hmb : m ≤ 109951162777600 := by omega
              have hlt : m < V.size := by omega
              have hvx : V[m]'hlt = x := by
                rw [List.getElem?_eq_getElem (by show m < V.size; exact hlt)] at hgx
                exact Option.some.inj hgx
              rw [← hV] at hne ⊢
              by_cases hx32 : x = 32
              · subst hx32
                have hb : (((V[m]'hlt).toNat : Int) == 32) = true := by rw [hvx]; rfl
                have hcut : V.extract 0 m = str G.dropLast := by rw [hV, ← str_cut, hm]; rfl
                have htr := trim_last hG hx
                have HTR := Lib.hid htr
                have HCUT := Lib.hid hcut
                have HGL := Lib.hid (show G.dropLast.length ≤ 109951162777600 by rw [List.length_dropLast]; omega)
                clear htr hcut hV hx hm hG hGz hvx hgx
                go_wp2_with fail
                go_roundw
                case rel => exact ⟨trivial, G.dropLast, by rw [← HCUT.out], HGL.out, Lib.hid (HTR.out.symm.trans HG.out)⟩
                case measure =>
                  have h1 : (V.extract 0 m).size = m := by rw [ByteArray.size_extract]; omega
                  simp only [Lib.strSize_string, h1]
                  omega
              · have hb : (((V[m]'hlt).toNat : Int) == 32) = false := by
                  rw [hvx, beq_eq_false_iff_ne]
                  intro e
                  exact hx32 (UInt8.toNat_inj.1 (by simpa using (show x.toNat = 32 by omega)))
                have htr := trim_stop hx hx32
                have hln0 : lineP L l = V := by rw [HLP.out, ← HG.out, htr, hV]
                have HLE := Lib.hid hln0
                clear htr hln0 hV hx hm hG hGz hx32 hvx hgx
                go_wp2_with (with_reducible show wpList _ _ _ (⟨some 65, _, _, _, _, _⟩ :: _) _ _; go_must (refine wpList_append_onet rfl (.tmp 62) (.tmp 64) 32 rfl w.heap.size 9 (.string ⟨#[]⟩) 16 Tryd.underlying32 (by kernel_rfl) rfl (by omega) _ (((L.take k).map (lineP L)).map Value.string) rfl (OwnL.keepsT (S := fun _ => False) HO2.out ((Keeps.refl _ _).alloc _) (fun _ _ _ => id)) ⟨W2.heap.size, 0, none⟩ 1 (.string V) rfl ((Blk.new _ _ _).cell 0) rfl (by rw [List.length_map]; have := HVL.out; omega) (by have := HR.out.2.2.size; simp; omega) ?_; intro v7 w7 O7 k7))
                go_roundw
                case rel =>
                  refine ⟨k + 1, by go_num, Lib.hid ⟨by omega, ?_, ?_⟩⟩
                  · rw [take_snoc HLL.out, List.map_append, List.map_append, List.map_cons, HLE.out]; exact O7
                  · exact (HR.out.2.2.alloc _).and_ k7 (fun i hi h => by omega)
                case measure => simp [intOf]; omega
    · have ht : (L.take k).map (lineP L) = tableP L := by unfold tableP; rw [List.take_of_length_le (by rw [HLN.out]; omega)]
      have hO := HR.out.2.1
      rw [ht] at hO
      have HO := Lib.hid hO
      clear hO ht
      go_wp2_with fail
      go_ret
      exact ⟨⟨_, rfl, HO.out⟩, HR.out.2.2⟩
end Go.Proofs.YtgpfmkkkpdpdfaaDoor
