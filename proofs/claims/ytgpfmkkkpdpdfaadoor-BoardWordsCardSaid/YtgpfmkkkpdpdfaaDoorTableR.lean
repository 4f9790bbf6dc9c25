/-
  The document's table of rows: how wide a column is, and each row as a line; and whether two lists of texts are one.
-/
import Derived.Test.YtgpfmkkkpdpdfaaDoorTable
namespace Go.Proofs.YtgpfmkkkpdpdfaaDoor
open Go.RowKit

theorem wide_take {L : List (List ByteArray)} {k : Nat} {l : List ByteArray} (h : L[k]? = some l) (i : Nat) : wideP (L.take (k + 1)) i = max (wideP (L.take k) i) (colW l i) := by
  rw [take_snoc h, wideP_snoc]

set_option maxRecDepth 100000 in
set_option maxHeartbeats 1000000 in
theorem rwide_any (w : World) (a : Option Addr) (n c i : Nat) (L : List (List ByteArray)) (h : Rows2 w a n L) (hn : n ≤ 4294967296) (h8 : ∀ l ∈ L, l.length ≤ 8) (hs : ∀ l ∈ L, ∀ s ∈ l, s.size ≤ 4294967296) :
    Calls Tryd.prog 63 #[.slice a n c, .int .i64 (i : Nat)] w fun e w' => e = .returned (.int .i64 (wideP L i : Nat)) ∧ w' = w := by
  have HLN := Lib.hid h.1
  have H := Lib.hid h
  have H8 := Lib.hid h8
  have HSZ := Lib.hid hs
  clear h h8 hs
  go_enter Tryd.func63, Tryd.ntmps63
  go_wp2_with fail
  go_loopw [5, 6] (fun u5 u6 wr => w = wr ∧ ∃ (k m : Nat), u6 = .int .i64 k ∧ u5 = .int .i64 (m : Nat) ∧ m ≤ 4294967296 ∧ Hid (k ≤ n ∧ m = wideP (L.take k) i)) (fun _ u6 _ => n - (intOf u6).toNat)
  case atStart => exact ⟨rfl, 0, 0, rfl, rfl, by omega, Lib.hid ⟨Nat.zero_le _, by simp [wideP]⟩⟩
  case round =>
    obtain ⟨rfl, k, m, rfl, rfl, hm, HK⟩ := hrel
    by_cases hk : k < n
    · obtain ⟨l, hl⟩ : ∃ l, L[k]? = some l := ⟨_, List.getElem?_eq_getElem (by rw [HLN.out]; exact hk)⟩
      obtain ⟨b, off, a1, c1, rfl, hc1, hs1⟩ := H.out.at_ hl
      have hl8 : l.length ≤ 8 := H8.out l (List.mem_of_getElem? hl)
      have hlz := HSZ.out l (List.mem_of_getElem? hl)
      have hwt := wide_take hl i
      have HWT := Lib.hid hwt
      clear hl hwt
      by_cases hi : i < l.length
      · obtain ⟨s, hs⟩ : ∃ s, l[i]? = some s := ⟨_, List.getElem?_eq_getElem hi⟩
        obtain ⟨b2, off2, rfl, hc2⟩ := hs1.at_ hs
        have hsz := hlz s (List.mem_of_getElem? hs)
        have hcw := colW_some hs
        have HCW := Lib.hid hcw
        clear hs hs1 hcw hlz
        by_cases hgt : m < s.size
        · go_wp2_with fail
          go_roundw
          case rel => exact ⟨trivial, k + 1, s.size, by go_num, rfl, hsz, Lib.hid ⟨by omega, by rw [HWT.out, HCW.out, ← HK.out.2]; omega⟩⟩
          case measure => simp [intOf]; omega
        · have hle : s.size ≤ m := by omega
          clear hgt
          go_wp2_with fail
          go_roundw
          case rel => exact ⟨trivial, k + 1, m, by go_num, rfl, hm, Lib.hid ⟨by omega, by rw [HWT.out, HCW.out, ← HK.out.2]; omega⟩⟩
          case measure => simp [intOf]; omega
      · have hcw := colW_none (l := l) (i := i) (by omega)
        have HCW := Lib.hid hcw
        clear hs1 hcw hlz
        go_wp2_with fail
        go_roundw
        case rel => exact ⟨trivial, k + 1, m, by go_num, rfl, hm, Lib.hid ⟨by omega, by rw [HWT.out, HCW.out, ← HK.out.2]; omega⟩⟩
        case measure => simp [intOf]; omega
    · have hw : m = wideP L i := by rw [HK.out.2, List.take_of_length_le (by rw [HLN.out]; omega)]
      have HW := Lib.hid hw
      clear hw
      go_wp2_with fail
      go_ret
      exact ⟨by rw [HW.out]; rfl, rfl⟩

/-! a line without the blanks at its end, byte by byte -/
theorem trim_last {l : List UInt8} (h : l ≠ []) (h32 : l.getLast? = some 32) : Lib.trimRightB l 32 = Lib.trimRightB l.dropLast 32 := by
  unfold Lib.trimRightB
  obtain ⟨l', x, rfl⟩ : ∃ l' x, l = l' ++ [x] := ⟨l.dropLast, l.getLast h, (List.dropLast_concat_getLast h).symm⟩
  rw [List.getLast?_concat] at h32
  injection h32 with h32
  subst h32
  rw [List.dropLast_concat, List.reverse_append]
  simp
theorem trim_stop {l : List UInt8} {x : UInt8} (h : l.getLast? = some x) (h32 : x ≠ 32) : Lib.trimRightB l 32 = l := by
  unfold Lib.trimRightB
  have hne : l ≠ [] := by rintro rfl; simp at h
  obtain ⟨l', y, rfl⟩ : ∃ l' x, l = l' ++ [x] := ⟨l.dropLast, l.getLast hne, (List.dropLast_concat_getLast hne).symm⟩
  rw [List.getLast?_concat] at h
  injection h with h
  subst h
  rw [List.reverse_append]
  simp [h32]
theorem trim_nil : Lib.trimRightB [] 32 = [] := rfl
theorem str_cut (l : List UInt8) : (str l).extract 0 (l.length - 1) = str l.dropLast := by
  apply ba_ext
  simp [str, List.dropLast_eq_take]
theorem rep_snoc (n : Nat) : List.replicate n (32 : UInt8) ++ [32] = List.replicate (n + 1) 32 := by
  rw [← List.replicate_succ']

/-! whether two lists of texts are one -/
theorem toList_ne {s t : ByteArray} (h : ¬ s = t) : (s.toList == t.toList) = false := by
  rw [beq_eq_false_iff_ne]
  intro e
  rw [ByteArray.toList_eq, ByteArray.toList_eq] at e
  exact h (ba_ext e)
set_option maxRecDepth 100000 in
set_option maxHeartbeats 1000000 in
theorem same10_any (w : World) (a b : Option Addr) (n m c d : Nat) (l k : List ByteArray) (h : SlAt strR 1 w a n l) (h2 : SlAt strR 1 w b m k) (hn : n ≤ 4611686018427387904) (hm : m ≤ 4611686018427387904) :
    Calls Tryd.prog 19 #[.slice a n c, .slice b m d] w fun e w' => e = .returned (.bool (decide (l = k))) ∧ Keeps (fun _ => False) w w' := by
  have HLN := Lib.hid h.1
  have HKN := Lib.hid h2.1
  have HL := Lib.hid h
  have HK := Lib.hid h2
  clear h h2
  by_cases hnm : n = m
  · subst hnm
    go_enter Tryd.func19, Tryd.ntmps19
    go_wp2_with fail
    go_loopw [5] (fun u5 wr => ∃ i : Nat, u5 = .int .i64 i ∧ Hid (i ≤ n ∧ l.take i = k.take i ∧ Keeps (fun _ => False) w wr)) (fun u5 _ => n - (intOf u5).toNat)
    case atStart => exact ⟨0, rfl, Lib.hid ⟨Nat.zero_le _, by simp, Keeps.refl _ _⟩⟩
    case round =>
      obtain ⟨i, rfl, HI⟩ := hrel
      by_cases hi : i < n
      · obtain ⟨s, hs⟩ : ∃ s, l[i]? = some s := ⟨_, List.getElem?_eq_getElem (by rw [HLN.out]; exact hi)⟩
        obtain ⟨t, ht⟩ : ∃ t, k[i]? = some t := ⟨_, List.getElem?_eq_getElem (by rw [HKN.out]; exact hi)⟩
        obtain ⟨b1, off1, rfl, hc1⟩ := (HL.out.keeps HI.out.2.2 (fun _ _ => id)).at_ hs
        obtain ⟨b2, off2, rfl, hc2⟩ := (HK.out.keeps HI.out.2.2 (fun _ _ => id)).at_ ht
        by_cases hst : s = t
        · have hb : (s.toList == t.toList) = true := by rw [hst]; exact beq_self_eq_true _
          have htk : l.take (i + 1) = k.take (i + 1) := by rw [take_snoc hs, take_snoc ht, HI.out.2.1, hst]
          have HTK := Lib.hid htk
          clear htk hst hs ht
          go_wp2_with fail
          go_region
          all_goals (go_wp2_with fail)
          go_roundw
          case rel => exact ⟨i + 1, by go_num, Lib.hid ⟨by omega, HTK.out, by have := HI.out.2.2; (repeat (first | (with_reducible assumption) | (with_reducible exact Keeps.refl _ _) | refine Keeps.drew ?_ | refine Keeps.drewN ?_ _ | refine Keeps.setCell ?_ (by simp) _ | refine Keeps.setRow ?_ (by simp) _ | refine Keeps.alloc ?_ _))⟩⟩
          case measure => simp [intOf]; omega
        · have hb : (s.toList == t.toList) = false := toList_ne hst
          have hlk : l ≠ k := by
            rintro rfl
            rw [hs] at ht
            exact hst (Option.some.inj ht)
          have HLK := Lib.hid hlk
          clear hlk hst hs ht
          go_wp2_with fail
          go_region
          all_goals (go_wp2_with fail)
          go_ret
          exact ⟨by rw [decide_eq_false HLK.out]; rfl, by have := HI.out.2.2; (repeat (first | (with_reducible assumption) | (with_reducible exact Keeps.refl _ _) | refine Keeps.drew ?_ | refine Keeps.drewN ?_ _ | refine Keeps.setCell ?_ (by simp) _ | refine Keeps.setRow ?_ (by simp) _ | refine Keeps.alloc ?_ _))⟩
      · have hlk : l = k := by
          have := HI.out.2.1
          rwa [List.take_of_length_le (by rw [HLN.out]; omega), List.take_of_length_le (by rw [HKN.out]; omega)] at this
        have HLK := Lib.hid hlk
        clear hlk
        go_wp2_with fail
        go_ret
        exact ⟨by rw [decide_eq_true HLK.out]; rfl, HI.out.2.2⟩
  · have hlk : l ≠ k := by rintro rfl; exact hnm (HLN.out.symm.trans HKN.out)
    have HLK := Lib.hid hlk
    have hb : ((n : Int) != (m : Int)) = true := by rw [bne_iff_ne]; omega
    clear hlk
    go_enter Tryd.func19, Tryd.ntmps19
    go_wp2_with fail
    go_ret
    exact ⟨by rw [decide_eq_false HLK.out]; rfl, Keeps.refl _ _⟩
end Go.Proofs.YtgpfmkkkpdpdfaaDoor
