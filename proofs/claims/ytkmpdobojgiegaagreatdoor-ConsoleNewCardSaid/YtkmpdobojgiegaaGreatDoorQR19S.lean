/-
  The document's Same and Written of what is done to a line; law33's Sample.
-/
import Derived.Test.YtkmpdobojgiegaaGreatDoorQK33
namespace Go.Proofs.YtkmpdobojgiegaaGreatDoor
open Go.RowKit

theorem out_at {w : World} {a : Option Addr} {n : Nat} {l : List OutP} (h : SlAt outR 2 w a n l) {i : Nat} {x : OutP} (hx : l[i]? = some x) : ∃ b off, a = some ⟨b, off, none⟩ ∧ b < w.heap.size ∧ ∀ W, Keeps (fun _ => False) w W → W.cell? ⟨b, off + i * 2, none⟩ = some (.int .i64 x.1) ∧ W.cell? ⟨b, off + i * 2 + 1, none⟩ = some (.string (str x.2)) := by
  have hi : i < l.length := (List.getElem?_eq_some_iff.1 hx).1
  obtain ⟨b, off, ha, hb, hc⟩ := h.2 (by rw [← h.1]; omega)
  refine ⟨b, off, ha, hb, fun W k => ?_⟩
  have hh : ∀ j v, (outR x)[j]? = some v → W.cell? ⟨b, off + i * 2 + j, none⟩ = some v := fun j v hj => (World.cell?_of_block (w := w) (k.block b hb id)).trans (hc i x j v hx hj)
  exact ⟨hh 0 _ rfl, hh 1 _ rfl⟩
theorem out_take {l : List OutP} {i : Nat} {x : OutP} (h : l[i]? = some x) : l.take (i + 1) = l.take i ++ [x] := by rw [List.take_add_one, h]; rfl
theorem out_ne {a a' : Int} {c c' : List UInt8} (h : ((a, c) : OutP) ≠ (a', c')) : a ≠ a' ∨ (a = a' ∧ (str c).toList ≠ (str c').toList) := by
  by_cases h1 : a = a'
  · refine .inr ⟨h1, fun hc => h ?_⟩
    rw [ByteArray.toList_eq, ByteArray.toList_eq, str_list, str_list] at hc
    rw [h1, hc]
  · exact .inl h1
set_option maxRecDepth 100000 in
set_option maxHeartbeats 1000000 in
theorem r19same_all (w : World) (a b : Option Addr) (n m c d : Nat) (l k : List OutP) (h : SlAt outR 2 w a n l) (h2 : SlAt outR 2 w b m k) (hn : n ≤ 1073741824) (hm : m ≤ 1073741824) :
    Calls Tryz.prog 37 #[.slice a n c, .slice b m d] w fun e w' => e = .returned (.bool (decide (l = k))) ∧ Keeps (fun _ => False) w w' := by
  have HLN := Lib.hid h.1
  have HKN := Lib.hid h2.1
  have HL := Lib.hid h
  have HK := Lib.hid h2
  clear h h2
  by_cases hnm : n = m
  · subst hnm
    go_enter Tryz.func37, Tryz.ntmps37
    go_wp2_with fail
    go_loopw [5] (fun u5 wr => ∃ i : Nat, u5 = .int .i64 i ∧ Hid (i ≤ n ∧ l.take i = k.take i ∧ Keeps (fun _ => False) w wr)) (fun u5 _ => n - (intOf u5).toNat)
    case atStart => exact ⟨0, rfl, Lib.hid ⟨Nat.zero_le _, by simp, Keeps.refl _ _⟩⟩
    case round =>
      obtain ⟨i, rfl, HI⟩ := hrel
      by_cases hi : i < n
      · obtain ⟨x, hs⟩ : ∃ x, l[i]? = some x := ⟨_, List.getElem?_eq_getElem (by rw [HLN.out]; exact hi)⟩
        obtain ⟨y, ht⟩ : ∃ y, k[i]? = some y := ⟨_, List.getElem?_eq_getElem (by rw [HKN.out]; exact hi)⟩
        obtain ⟨b1, off1, rfl, _, hc1⟩ := out_at HL.out hs
        obtain ⟨b2, off2, rfl, _, hc2⟩ := out_at HK.out ht
        obtain ⟨x0, x1⟩ := hc1 _ HI.out.2.2
        obtain ⟨y0, y1⟩ := hc2 _ HI.out.2.2
        by_cases hst : x = y
        · have htk : l.take (i + 1) = k.take (i + 1) := by rw [out_take hs, out_take ht, HI.out.2.1, hst]
          have HTK := Lib.hid htk
          clear htk hs ht hc1 hc2
          subst hst
          go_wp2_with fail
          go_region
          all_goals (go_wp2_with fail)
          go_roundw
          case rel => exact ⟨i + 1, by go_num, Lib.hid ⟨by omega, HTK.out, by have := HI.out.2.2; (repeat (first | (with_reducible assumption) | (with_reducible exact Keeps.refl _ _) | refine Keeps.drew ?_ | refine Keeps.drewN ?_ _ | refine Keeps.setCell ?_ (by simp) _ | refine Keeps.setRow ?_ (by simp) _ | refine Keeps.alloc ?_ _))⟩⟩
          case measure => simp [intOf]; omega
        · have hlk : l ≠ k := by
            rintro rfl
            rw [hs] at ht
            exact hst (Option.some.inj ht)
          have HLK := Lib.hid hlk
          clear hlk hs ht hc1 hc2
          obtain ⟨xk, xb⟩ := x
          obtain ⟨yk, yb⟩ := y
          simp only at x0 x1 y0 y1
          rcases out_ne hst with hb | ⟨rfl, hb⟩
          all_goals
            clear hst
            go_wp2_with fail
            go_region
            all_goals (go_wp2_with fail)
            go_ret
            exact ⟨by rw [decide_eq_false HLK.out]; rfl, by have := HI.out.2.2; (repeat (first | (with_reducible assumption) | (with_reducible exact Keeps.refl _ _) | refine Keeps.drew ?_ | refine Keeps.drewN ?_ _ | refine Keeps.setCell ?_ (by simp) _ | refine Keeps.setRow ?_ (by simp) _ | refine Keeps.alloc ?_ _))⟩
      · have hlk : l = k := by
          have := HI.out.2.1
          rwa [List.take_of_length_le (by rw [HLN.out]; omega), List.take_of_length_le (by rw [HKN.out]; omega)] at this
        have HLK := Lib.hid hlk
        clear hlk
        go_wp2_with fail
        go_ret
        exact ⟨by rw [decide_eq_true HLK.out]; rfl, HI.out.2.2⟩
  · have hlk : l ≠ k := by rintro rfl; exact hnm (HLN.out.symm.trans HKN.out)
    have HLK := Lib.hid hlk
    have hb : ((n : Int) != (m : Int)) = true := by rw [bne_iff_ne]; omega
    clear hlk
    go_enter Tryz.func37, Tryz.ntmps37
    go_wp2_with fail
    go_ret
    exact ⟨by rw [decide_eq_false HLK.out]; rfl, Keeps.refl _ _⟩
end Go.Proofs.YtkmpdobojgiegaaGreatDoor
