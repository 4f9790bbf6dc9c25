/-
  wheelhouseref10.Same: whether two lists of texts are one; lists of texts that lie in a new block, or in a slice of the own.
-/
import Derived.Test.YtfpajgmdejlaeaaGreatDoorChecked
import Derived.Test.YtfpajgmdejlaeaaGreatDoorQGround2
import Derived.Test.YtfpajgmdejlaeaaGreatDoorQGround1
namespace Go.Proofs.YtfpajgmdejlaeaaGreatDoor
open Go.RowKit

theorem take_snoc10 {l : List ByteArray} {i : Nat} {s : ByteArray} (h : l[i]? = some s) : l.take (i + 1) = l.take i ++ [s] := by rw [List.take_add_one, h]; rfl
theorem slat_at {w : World} {a : Option Addr} {n : Nat} {l : List ByteArray} (h : SlAt strR 1 w a n l) {i : Nat} {s : ByteArray} (hs : l[i]? = some s) : ∃ b off, a = some ⟨b, off, none⟩ ∧ w.cell? ⟨b, off + i, none⟩ = some (.string s) := by
  have hi : i < l.length := (List.getElem?_eq_some_iff.1 hs).1
  obtain ⟨b, off, ha, _, hc⟩ := h.2 (by rw [← h.1]; omega)
  exact ⟨b, off, ha, SlAt.str hc i s hs⟩
theorem slat_mk (w : World) (t : TypeId) (l : List ByteArray) : SlAt strR 1 (w.alloc (.cells (l.map Value.string).toArray t)) (some ⟨w.heap.size, 0, none⟩) l.length l := by
  refine ⟨rfl, fun _ => ⟨w.heap.size, 0, rfl, by simp, fun i x j v hx hv => ?_⟩⟩
  rw [(Blk.new w t (l.map Value.string).toArray).cell]
  match j, hv with
  | 0, hv =>
    simp [strR] at hv
    subst hv
    simp [hx]
  | j + 1, hv => simp [strR] at hv
theorem slat_own {w : World} {B : Nat} {e : TypeId} {a : Option Addr} {n c : Nat} {l : List ByteArray} (h : OwnL w B e (.slice a n c) (l.map Value.string)) : n = l.length ∧ SlAt strR 1 w a l.length l := by
  obtain ⟨a1, c1, hv, _, _, h1, h2⟩ := h.shape
  injection hv with e1 e2 e3
  subst e1
  rw [List.length_map] at e2 h1
  refine ⟨e2, rfl, fun hn => ?_⟩
  obtain ⟨g, ha, _, hlt⟩ := h1 hn
  refine ⟨g, 0, ha, hlt, fun i x j v hx hv => ?_⟩
  match j, hv with
  | 0, hv =>
    simp [strR] at hv
    subst hv
    have := (h2 g ha i (.string x) (by rw [List.getElem?_map, hx]; rfl)).1
    simpa using this
  | j + 1, hv => simp [strR] at hv
theorem toList_ne10 {s t : ByteArray} (h : ¬ s = t) : (s.toList == t.toList) = false := by
  rw [beq_eq_false_iff_ne]
  intro e
  rw [ByteArray.toList_eq, ByteArray.toList_eq] at e
  exact h (ba_ext e)
set_option maxRecDepth 100000 in
set_option maxHeartbeats 1000000 in
theorem same10_all (w : World) (a b : Option Addr) (n m c d : Nat) (l k : List ByteArray) (h : SlAt strR 1 w a n l) (h2 : SlAt strR 1 w b m k) (hn : n ≤ 4611686018427387904) (hm : m ≤ 4611686018427387904) :
    Calls Tryz.prog 27 #[.slice a n c, .slice b m d] w fun e w' => e = .returned (.bool (decide (l = k))) ∧ Keeps (fun _ => False) w w' := by
  have HLN := Lib.hid h.1
  have HKN := Lib.hid h2.1
  have HL := Lib.hid h
  have HK := Lib.hid h2
  clear h h2
  by_cases hnm : n = m
  · subst hnm
    go_enter Tryz.func27, Tryz.ntmps27
    go_wp2_with fail
    go_loopw [5] (fun u5 wr => ∃ i : Nat, u5 = .int .i64 i ∧ Hid (i ≤ n ∧ l.take i = k.take i ∧ Keeps (fun _ => False) w wr)) (fun u5 _ => n - (intOf u5).toNat)
    case atStart => exact ⟨0, rfl, Lib.hid ⟨Nat.zero_le _, by simp, Keeps.refl _ _⟩⟩
    case round =>
      obtain ⟨i, rfl, HI⟩ := hrel
      by_cases hi : i < n
      · obtain ⟨s, hs⟩ : ∃ s, l[i]? = some s := ⟨_, List.getElem?_eq_getElem (by rw [HLN.out]; exact hi)⟩
        obtain ⟨t, ht⟩ : ∃ t, k[i]? = some t := ⟨_, List.getElem?_eq_getElem (by rw [HKN.out]; exact hi)⟩
        obtain ⟨b1, off1, rfl, hc1⟩ := slat_at (HL.out.keeps HI.out.2.2 (fun _ _ => id)) hs
        obtain ⟨b2, off2, rfl, hc2⟩ := slat_at (HK.out.keeps HI.out.2.2 (fun _ _ => id)) ht
        by_cases hst : s = t
        · have hb : (s.toList == t.toList) = true := by rw [hst]; exact beq_self_eq_true _
          have htk : l.take (i + 1) = k.take (i + 1) := by rw [take_snoc10 hs, take_snoc10 ht, HI.out.2.1, hst]
          have HTK := Lib.hid htk
          clear htk hst hs ht
          go_wp2_with fail
          go_region
          all_goals (go_wp2_with fail)
          go_roundw
          case rel => exact ⟨i + 1, by go_num, Lib.hid ⟨by omega, HTK.out, by have := HI.out.2.2; (repeat (first | (with_reducible assumption) | (with_reducible exact Keeps.refl _ _) | refine Keeps.drew ?_ | refine Keeps.drewN ?_ _ | refine Keeps.setCell ?_ (by simp) _ | refine Keeps.setRow ?_ (by simp) _ | refine Keeps.alloc ?_ _))⟩⟩
          case measure => simp [intOf]; omega
        · have hb : (s.toList == t.toList) = false := toList_ne10 hst
          have hlk : l ≠ k := by
            rintro rfl
            rw [hs] at ht
            exact hst (Option.some.inj ht)
          have HLK := Lib.hid hlk
          clear hlk hst hs ht
          go_wp2_with fail
          go_region
          all_goals (go_wp2_with fail)
          go_ret
          exact ⟨by rw [decide_eq_false HLK.out]; rfl, by have := HI.out.2.2; (repeat (first | (with_reducible assumption) | (with_reducible exact Keeps.refl _ _) | refine Keeps.drew ?_ | refine Keeps.drewN ?_ _ | refine Keeps.setCell ?_ (by simp) _ | refine Keeps.setRow ?_ (by simp) _ | refine Keeps.alloc ?_ _))⟩
      · have hlk : l = k := by
          have := HI.out.2.1
          rwa [List.take_of_length_le (by rw [HLN.out]; omega), List.take_of_length_le (by rw [HKN.out]; omega)] at this
        have HLK := Lib.hid hlk
        clear hlk
        go_wp2_with fail
        go_ret
        exact ⟨by rw [decide_eq_true HLK.out]; rfl, HI.out.2.2⟩
  · have hlk : l ≠ k := by rintro rfl; exact hnm (HLN.out.symm.trans HKN.out)
    have HLK := Lib.hid hlk
    have hb : ((n : Int) != (m : Int)) = true := by rw [bne_iff_ne]; omega
    clear hlk
    go_enter Tryz.func27, Tryz.ntmps27
    go_wp2_with fail
    go_ret
    exact ⟨by rw [decide_eq_false HLK.out]; rfl, Keeps.refl _ _⟩
end Go.Proofs.YtfpajgmdejlaeaaGreatDoor
