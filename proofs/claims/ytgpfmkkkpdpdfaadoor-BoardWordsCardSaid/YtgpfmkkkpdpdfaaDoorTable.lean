/-
  board.Table: rows as lines, whose columns stand below one another.
-/
import Derived.Test.YtgpfmkkkpdpdfaaDoorTabW
import Derived.Test.YtgpfmkkkpdpdfaaDoorBldK
namespace Go.Proofs.YtgpfmkkkpdpdfaaDoor
open Go.RowKit

def padB (n : Nat) (s : ByteArray) : List UInt8 := s.data.toList ++ List.replicate (n - s.size) 32
def sepB (j : Nat) : List UInt8 := if 0 < j then [32, 32] else []
/-- a line's first columns -/
def lineU (L : List (List ByteArray)) (l : List ByteArray) : Nat → List UInt8
  | 0 => []
  | j + 1 => lineU L l j ++ (sepB j ++ padB (wideP L j) (l.getD j ⟨#[]⟩))
def lineP (L : List (List ByteArray)) (l : List ByteArray) : ByteArray := str (Lib.trimRightB (lineU L l l.length) 32)
def tableP (L : List (List ByteArray)) : List ByteArray := L.map (lineP L)
theorem foldl_max_ge (L : List (List ByteArray)) (i : Nat) : ∀ n, n ≤ L.foldl (fun n l => max n (colW l i)) n := by
  induction L with
  | nil => intro n; exact Nat.le_refl _
  | cons l L ih => intro n; rw [List.foldl_cons]; exact Nat.le_trans (Nat.le_max_left _ _) (ih _)
theorem wide_ge {L : List (List ByteArray)} {l : List ByteArray} {i : Nat} (h : l ∈ L) : colW l i ≤ wideP L i := by
  unfold wideP
  generalize 0 = n
  induction L generalizing n with
  | nil => cases h
  | cons x L ih =>
    rw [List.foldl_cons]
    rcases List.mem_cons.1 h with rfl | h
    · exact Nat.le_trans (Nat.le_max_right _ _) (foldl_max_ge L i _)
    · exact ih h _
theorem lineU_len (L : List (List ByteArray)) (l : List ByteArray) (hs : ∀ j, wideP L j ≤ 4294967296) (hz : ∀ s ∈ l, s.size ≤ 4294967296) : ∀ j, (lineU L l j).length ≤ j * 12884901890
  | 0 => by simp [lineU]
  | j + 1 => by
    have h1 := lineU_len L l hs hz j
    have h2 := hs j
    have h3 : (l.getD j ⟨#[]⟩).size ≤ 4294967296 := by
      rw [List.getD_eq_getElem?_getD]
      cases h : l[j]? with
      | none => exact Nat.zero_le _
      | some s => exact hz s (List.mem_of_getElem? h)
    have h4 : (sepB j).length ≤ 2 := by unfold sepB; split <;> simp
    have h5 : (padB (wideP L j) (l.getD j ⟨#[]⟩)).length = (l.getD j ⟨#[]⟩).size + (wideP L j - (l.getD j ⟨#[]⟩).size) := by unfold padB; rw [List.length_append, List.length_replicate]; rfl
    simp only [lineU, List.length_append, h5]
    omega
theorem lineU_step {L : List (List ByteArray)} {l : List ByteArray} {j : Nat} {s : ByteArray} (h : l[j]? = some s) : lineU L l (j + 1) = ((lineU L l j ++ sepB j) ++ s.data.toList) ++ List.replicate (wideP L j - s.size) 32 := by
  show lineU L l j ++ (sepB j ++ padB (wideP L j) (l.getD j ⟨#[]⟩)) = _
  have hg : l.getD j ⟨#[]⟩ = s := by rw [List.getD_eq_getElem?_getD, h]; rfl
  rw [hg, padB, List.append_assoc, List.append_assoc]
theorem sep_len (j : Nat) : (sepB j).length ≤ 2 := by unfold sepB; split <;> simp
theorem sep_pos {j : Nat} (h : j ≠ 0) : sepB j = (⟨#[32, 32]⟩ : ByteArray).data.toList := by unfold sepB; rw [if_pos (by omega)]
theorem sep_zero {j : Nat} (h : j = 0) : sepB j = [] := by unfold sepB; rw [if_neg (by omega)]
theorem isb {T e : TypeId} {B b : Nat} {l : List UInt8} {s : ByteArray} {w : World} (h : Lib.BuilderAt T e B b (.pointer (some ⟨b, 0, none⟩)) (Lib.byteCells l ++ Lib.strCells s) w) : Lib.IsBuilder T e B b (Lib.byteCells (l ++ s.data.toList)) w := by
  rw [← byteCells_app]; exact .inr h
theorem byteCells_len (l : List UInt8) : (Lib.byteCells l).length = l.length := by simp [Lib.byteCells]

set_option maxRecDepth 100000 in
set_option maxHeartbeats 1000000 in
theorem table_any (w : World) (a : Option Addr) (n c : Nat) (L : List (List ByteArray)) (h : Rows2 w a n L) (hn : n ≤ 4294967296) (h8 : ∀ l ∈ L, l.length ≤ 8) (hs : ∀ l ∈ L, ∀ s ∈ l, s.size ≤ 4294967296) :
    Calls Tryd.prog 21 #[.slice a n c] w fun e w' => (∃ v, e = .returned v ∧ OwnL w' w.heap.size 9 v ((tableP L).map Value.string)) ∧ Keeps (fun _ => False) w w' := by
  have HLN := Lib.hid h.1
  have H := Lib.hid h
  have H8 := Lib.hid h8
  have HSZ := Lib.hid hs
  have HW := Lib.hid (widths_any w a n c L h hn h8 hs)
  clear h h8 hs
  go_enter Tryd.func21, Tryd.ntmps21
  go_wp2_with fail
  refine HW.out.mono ?_
  rintro e W1 ⟨⟨v3, ws, rfl, hO3, hWI⟩, kw⟩
  obtain ⟨a3, c3, rfl⟩ := hO3.sl'
  rw [wsV_len] at hO3 ⊢
  have hw8 := hWI.le8
  have hwsz : ∀ j, wideP L j ≤ 4294967296 := fun j => by
    rcases Nat.lt_or_ge j ws.length with hj | hj
    · exact hWI.small _ (List.mem_of_getElem? (hWI.at_ j hj))
    · rw [wide_zero (fun l hl => by have := hWI.all l hl; omega)]; omega
  have HWS := Lib.hid hwsz
  have HO3 := Lib.hid hO3
  have HWI := Lib.hid hWI
  have HKW := Lib.hid kw
  clear hO3 hWI kw hwsz
  go_wp2_with fail
  go_loopw [4, 14] (fun u4 u14 wr => ∃ (k : Nat), u14 = .int .i64 k ∧ Hid (k ≤ n ∧ OwnL wr W1.heap.size 9 u4 (((L.take k).map (lineP L)).map Value.string) ∧ Keeps (fun _ => False) W1 wr)) (fun _ u14 _ => n - (intOf u14).toNat)
  case atStart => exact ⟨0, rfl, Lib.hid ⟨Nat.zero_le _, OwnL.none_ _ _ _, Keeps.refl _ _⟩⟩
  case round =>
    obtain ⟨k, rfl, HR⟩ := hrel
    rename World => W2
    by_cases hk : k < n
    · obtain ⟨l, hl⟩ : ∃ l, L[k]? = some l := ⟨_, List.getElem?_eq_getElem (by rw [HLN.out]; exact hk)⟩
      obtain ⟨b, off, a1, c1, rfl, hcA, hs1⟩ := H.out.atA hl
      have hc1 := hcA _ (Keeps.trans HKW.out HR.out.2.2)
      have hl8 : l.length ≤ 8 := H8.out l (List.mem_of_getElem? hl)
      have hlm := List.mem_of_getElem? hl
      have hlz := HSZ.out l hlm
      have HLZ := Lib.hid hlz
      have HLM := Lib.hid hlm
      have HLL := Lib.hid hl
      have HS1 := Lib.hid hs1
      clear hl hs1 hcA hlz hlm
      go_wp2_with fail
      go_loopw [20] (fun u20 w3 => ∃ (j : Nat), u20 = .int .i64 j ∧ Hid (j ≤ l.length ∧ Lib.IsBuilder 100 5 W2.heap.size W2.heap.size (Lib.byteCells (lineU L l j)) w3 ∧ Keeps (fun _ => False) W2 w3 ∧ W2.heap.size ≤ w3.heap.size)) (fun u20 _ => l.length - (intOf u20).toNat)
      case atStart => exact ⟨0, rfl, Lib.hid ⟨Nat.zero_le _, Lib.fresh_isBuilder _ _ _, (Keeps.refl _ _).alloc _, by simp⟩⟩
      case round =>
        obtain ⟨j, rfl, HK⟩ := hrel
        rename World => w3
        by_cases hj : j < l.length
        · obtain ⟨s, hs⟩ : ∃ s, l[j]? = some s := ⟨_, List.getElem?_eq_getElem hj⟩
          have K3 := Keeps.trans (Keeps.trans HKW.out HR.out.2.2) HK.out.2.2.1
          obtain ⟨b2, off2, rfl, hc2⟩ := (HS1.out.keeps K3 (fun _ _ => id)).at_ hs
          have hsz := HLZ.out s (List.mem_of_getElem? hs)
          have hjw : j < ws.length := by have := HWI.out.all l HLM.out; omega
          have hwj := HWI.out.at_ j hjw
          have hge : s.size ≤ wideP L j := by have := wide_ge (i := j) HLM.out; rw [colW_some hs] at this; exact this
          have hst := lineU_step (L := L) hs
          have hln := lineU_len L l HWS.out (HLZ.out) j
          have hwz := HWS.out j
          obtain ⟨g3, q3, hv3, -, -, -, -⟩ := OwnL.cellAt HO3.out (wsV_get hwj) (wsV_len ws)
          injection hv3 with e1 e2 e3
          subst e1 e3
          have hc3 : ∀ W, Keeps (fun i => W1.heap.size ≤ i) W1 W → W.cell? ⟨g3, j, none⟩ = some (.int .i64 (wideP L j : Nat)) := fun W kk => by
            obtain ⟨g4, q4, hv4, h4, -, -, -⟩ := OwnL.cellAt (HO3.out.keeps kk (fun i _ hi hh => by omega)) (wsV_get hwj) (wsV_len ws)
            injection hv4 with e1 e2 e3
            injection e1 with e1
            injection e1 with e1
            subst e1
            exact h4
          obtain ⟨wd, hwd⟩ : ∃ wd, wd = wideP L j := ⟨_, rfl⟩
          rw [← hwd] at hc3 hge hst hwz
          have HC3 := Lib.hid hc3
          have HST := Lib.hid hst
          have HSS := Lib.hid hs
          have HLN2 := Lib.hid hln
          have HKB := Lib.hid (show Keeps (fun i => W1.heap.size ≤ i) W1 w3 from (HR.out.2.2.trans HK.out.2.2.1).mono (fun _ _ h => h.elim))
          have hW12 : W1.heap.size ≤ W2.heap.size := HR.out.2.2.size
          clear K3 hwj hst hs hln hwd e2 hc3
          by_cases hj0 : j = 0
          · have hsp := sep_zero hj0
            have hgt : decide (0 < (j : Int)) = false := by rw [hj0]; rfl
            have HSP := Lib.hid hsp
            have HJ0 := Lib.hid hj0
            have hgt2 : (j : Int) ≤ 0 := by omega
            clear hsp hj0
            go_wp2_with fail
            refine (bwrite _ _ _ s _ HK.out.2.1 (by rw [byteCells_len]; have := HLN2.out; omega) HK.out.2.2.2).mono ?_
            rintro e w4 ⟨rfl, hI4, k4⟩
            have HI4 := Lib.hid (isb hI4)
            have K4 := Keeps.and_ HKB.out (Keeps.of_below2 k4) (fun i _ h => by omega)
            have hc4 := HC3.out _ K4
            have HK4 := Lib.hid K4
            have h24 : W2.heap.size ≤ w4.heap.size := Nat.le_trans HK.out.2.2.2 k4.size
            have HB4 := Lib.hid k4
            clear hI4 K4 k4
            go_wp2_with fail
            refine (blanks_any _ _ (by omega) (by omega)).mono ?_
            rintro e w5 ⟨rfl, k5⟩
            have HI5 := Lib.hid (bld_keeps HI4.out k5 (fun _ _ => id))
            have h25 : W2.heap.size ≤ w5.heap.size := Nat.le_trans h24 k5.size
            have HK5 := Lib.hid k5
            have hrz : (str (List.replicate ((wd : Int) - (s.size : Int)).toNat 32)).size ≤ 4294967296 := by rw [str_size, List.length_replicate]; omega
            clear k5
            go_wp2_with fail
            refine (bwrite _ _ _ _ _ HI5.out (by rw [byteCells_len, List.length_append]; simp only [str_size, List.length_replicate]; have := HLN2.out; have : s.data.toList.length = s.size := rfl; omega) h25).mono ?_
            rintro e w6 ⟨rfl, hI6, k6⟩
            have HI6 := Lib.hid (isb hI6)
            have HK6 := Lib.hid k6
            clear hI6 k6
            go_wp2_with fail
            go_roundw
            case rel =>
              refine ⟨j + 1, by go_num, Lib.hid ⟨by omega, ?_, ?_, Nat.le_trans h25 HK6.out.size⟩⟩
              · have := HI6.out
                rw [str_list] at this
                rw [HST.out, HSP.out, List.append_nil]
                exact this
              · exact (((HK.out.2.2.1.and_ (Keeps.of_below2 HB4.out) (fun i hi h => by omega)).trans HK5.out).and_ (Keeps.of_below2 HK6.out) (fun i hi h => by omega))
            case measure => simp [intOf]; omega
          · have hsp := sep_pos hj0
            have hgt2 : 0 < (j : Int) := by omega
            have HSP := Lib.hid hsp
            clear hsp
            go_wp2_with fail
            refine (bwrite _ _ _ _ _ HK.out.2.1 (by rw [byteCells_len]; have := HLN2.out; have : (⟨#[32, 32]⟩ : ByteArray).size = 2 := rfl; omega) HK.out.2.2.2).mono ?_
            rintro e w0 ⟨rfl, hI0, k0⟩
            have HI0 := Lib.hid (isb hI0)
            have HB0 := Lib.hid k0
            have h20 : W2.heap.size ≤ w0.heap.size := Nat.le_trans HK.out.2.2.2 k0.size
            clear hI0 k0
            go_wp2_with fail
            refine (bwrite _ _ _ s _ HI0.out (by rw [byteCells_len, ← HSP.out, List.length_append]; have := HLN2.out; have := sep_len j; have : s.data.toList.length = s.size := rfl; omega) h20).mono ?_
            rintro e w4 ⟨rfl, hI4, k4⟩
            have HI4 := Lib.hid (isb hI4)
            have K4 := Keeps.and_ HKB.out (Keeps.of_below2 (HB0.out.trans k4)) (fun i _ h => by omega)
            have hc4 := HC3.out _ K4
            have HK4 := Lib.hid K4
            have h24 : W2.heap.size ≤ w4.heap.size := Nat.le_trans h20 k4.size
            have HB4 := Lib.hid (HB0.out.trans k4)
            clear hI4 K4 k4
            go_wp2_with fail
            refine (blanks_any _ _ (by omega) (by omega)).mono ?_
            rintro e w5 ⟨rfl, k5⟩
            have HI5 := Lib.hid (bld_keeps HI4.out k5 (fun _ _ => id))
            have h25 : W2.heap.size ≤ w5.heap.size := Nat.le_trans h24 k5.size
            have HK5 := Lib.hid k5
            have hrz : (str (List.replicate ((wd : Int) - (s.size : Int)).toNat 32)).size ≤ 4294967296 := by rw [str_size, List.length_replicate]; omega
            clear k5
            go_wp2_with fail
            refine (bwrite _ _ _ _ _ HI5.out (by rw [byteCells_len, ← HSP.out, List.length_append, List.length_append]; simp only [str_size, List.length_replicate]; have := HLN2.out; have := sep_len j; have : s.data.toList.length = s.size := rfl; have : s.data.toList.length = s.size := rfl; omega) h25).mono ?_
            rintro e w6 ⟨rfl, hI6, k6⟩
            have HI6 := Lib.hid (isb hI6)
            have HK6 := Lib.hid k6
            clear hI6 k6
            go_wp2_with fail
            go_roundw
            case rel =>
              refine ⟨j + 1, by go_num, Lib.hid ⟨by omega, ?_, ?_, Nat.le_trans h25 HK6.out.size⟩⟩
              · have := HI6.out
                rw [str_list] at this
                rw [HST.out, HSP.out]
                exact this
              · exact (((HK.out.2.2.1.and_ (Keeps.of_below2 HB4.out) (fun i hi h => by omega)).trans HK5.out).and_ (Keeps.of_below2 HK6.out) (fun i hi h => by omega))
            case measure => simp [intOf]; omega
        · have hjl : j = l.length := by have := HK.out.1; omega
          have HIF := HK.out.2.1
          rw [hjl] at HIF
          have HIF := Lib.hid HIF
          have hln := lineU_len L l HWS.out (HLZ.out) l.length
          have HLN2 := Lib.hid hln
          have hvl : ((L.take k).map (lineP L)).length ≤ 4294967296 := by rw [List.length_map, List.length_take]; omega
          have HVL := Lib.hid hvl
          have HKK := Lib.hid (Keeps.trans HR.out.2.2 HK.out.2.2.1)
          clear hjl hln hvl
          go_wp2_with fail
          refine (Tryd.Builder_String_any _ _ _ _ HIF.out HK.out.2.2.2).mono ?_
          rintro e w5 ⟨rfl, k5⟩
          have HB5 := Lib.hid k5
          clear k5
          go_wp2_with fail
          refine (Tryd.strings_TrimRight_one _ 32 (by decide) _ (by show (str (lineU L l l.length)).size ≤ _; rw [str_size]; have := HLN2.out; omega)).mono ?_
          rintro e w6 ⟨rfl, rfl⟩
          have K5 : Keeps (fun _ => False) W1 w6 := HKK.out.and_ (Keeps.of_below2 HB5.out) (fun i hi h => by have := HR.out.2.2.size; omega)
          have HK5 := Lib.hid K5
          clear K5
          obtain ⟨ln, hln⟩ : ∃ ln, ln = lineP L l := ⟨_, rfl⟩
          have hle : (⟨(Lib.trimRightB (⟨(lineU L l l.length).toArray⟩ : ByteArray).data.toList 32).toArray⟩ : ByteArray) = ln := by rw [hln]; rfl
          rw [hle]
          have HLE := Lib.hid hln
          have HO5 := Lib.hid (OwnL.keeps HR.out.2.1 (HK.out.2.2.1.and_ (Keeps.of_below2 HB5.out) (fun i hi h => by omega)) (fun i _ _ => id))
          clear hln hle
          go_wp2_with (with_reducible show wpList _ _ _ (⟨some 44, _, _, _, _, _⟩ :: _) _ _; go_must (refine wpList_append_onet rfl (.tmp 40) (.tmp 43) 32 rfl W1.heap.size 9 (.string ⟨#[]⟩) 16 Tryd.underlying32 (by kernel_rfl) rfl (by omega) _ (((L.take k).map (lineP L)).map Value.string) rfl (OwnL.keepsT (S := fun _ => False) HO5.out ((Keeps.refl _ _).alloc _) (fun _ _ _ => id)) ⟨w6.heap.size, 0, none⟩ 1 (.string ln) rfl ((Blk.new _ _ _).cell 0) rfl (by rw [List.length_map]; have := HVL.out; omega) (by have := HK5.out.size; simp; omega) ?_; intro v7 w7 O7 k7))
          go_roundw
          case rel =>
            refine ⟨k + 1, by go_num, Lib.hid ⟨by omega, ?_, ?_⟩⟩
            · rw [take_snoc HLL.out, List.map_append, List.map_append, List.map_cons, ← HLE.out]; exact O7
            · exact (HK5.out.alloc _).and_ k7 (fun i hi h => by omega)
          case measure => simp [intOf]; omega
    · have ht : (L.take k).map (lineP L) = tableP L := by unfold tableP; rw [List.take_of_length_le (by rw [HLN.out]; omega)]
      have hO := HR.out.2.1
      rw [ht] at hO
      have HO := Lib.hid hO
      clear hO ht
      go_wp2_with fail
      go_ret
      exact ⟨⟨_, rfl, HO.out.more HKW.out.size⟩, HKW.out.trans HR.out.2.2⟩
end Go.Proofs.YtgpfmkkkpdpdfaaDoor
