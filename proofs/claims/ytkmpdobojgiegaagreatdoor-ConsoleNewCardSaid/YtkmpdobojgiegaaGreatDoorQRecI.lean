/-
  sum: all of bytes, Fits; record: Read, Scan.
-/
import Derived.Test.YtkmpdobojgiegaaGreatDoorQRecH
import Derived.Test.YtkmpdobojgiegaaGreatDoorQOwnZ
namespace Go.Proofs.YtkmpdobojgiegaaGreatDoor
open Go.RowKit

theorem OwnZ.cells_ {w : World} {B : Nat} {e : TypeId} {v : Value} {vs : List Value} (h : OwnZ w B e v vs) : ∃ a c, v = .slice a vs.length c ∧ (0 < vs.length → ∃ g, a = some ⟨g, 0, none⟩ ∧ ∀ (j : Nat) (u : Value), vs[j]? = some u → w.cell? ⟨g, j, none⟩ = some u) := by
  rcases h with ⟨rfl, rfl⟩ | ⟨g, cap, cur, fz, rfl, _, hb, _, _, _, _, hc⟩
  · exact ⟨none, 0, rfl, fun h => absurd h (by simp)⟩
  · refine ⟨_, cap, rfl, fun _ => ⟨g, rfl, fun j u hu => ?_⟩⟩
    rw [cell_of_row w g j cur e fz hb]
    exact hc j u hu
theorem sum_snoc {l : List UInt8} {i : Nat} {c : UInt8} (h : l[i]? = some c) : sumP (l.take (i + 1)) = onP (sumP (l.take i)) c := by
  rw [List.take_add_one, h, Option.toList_some, sumP_snoc]
set_option maxRecDepth 100000 in
set_option maxHeartbeats 1000000 in
theorem sall_bytes (w : World) (a : Option Addr) (n c : Nat) (cs : List UInt8) (hn : cs.length = n) (hnb : n ≤ 4611686018427387904) (hc : 0 < n → ∃ g, a = some ⟨g, 0, none⟩ ∧ ∀ (j : Nat) (u : Value), (u8Vs cs)[j]? = some u → w.cell? ⟨g, j, none⟩ = some u) :
    Calls Tryz.prog 283 #[.int .i64 0, .slice a n c] w fun e w' => e = .returned (.int .i64 (sumP cs : Nat)) ∧ w' = w := by
  have HC := Lib.hid hc
  have HN := Lib.hid hn
  clear hc hn
  go_enter Tryz.func283, Tryz.ntmps283
  go_wp2_with fail
  go_loopw [0, 8] (fun u0 u8 wr => w = wr ∧ ∃ i h : Nat, u8 = .int .i64 i ∧ u0 = .int .i64 h ∧ i ≤ n ∧ h ≤ 2147483646 ∧ Hid (h = sumP (cs.take i))) (fun _ u8 _ => n - (intOf u8).toNat)
  case atStart => exact ⟨rfl, 0, 0, rfl, rfl, Nat.zero_le _, by omega, Lib.hid rfl⟩
  case round =>
    obtain ⟨rfl, i, h, rfl, rfl, hi, hb, HH⟩ := hrel
    by_cases hlt : i < n
    · obtain ⟨x, hx⟩ : ∃ x, cs[i]? = some x := ⟨_, List.getElem?_eq_getElem (by rw [HN.out]; exact hlt)⟩
      obtain ⟨g, rfl, hg⟩ := HC.out (by omega)
      have hgx := hg i _ (show (u8Vs cs)[i]? = some (.int .u8 x.toNat) by unfold u8Vs; rw [List.getElem?_map, hx]; rfl)
      have hst := sum_snoc hx
      rw [← HH.out] at hst
      have hb2 := sumP_lt (cs.take (i + 1))
      rw [hst] at hb2
      have HST := Lib.hid hst
      have HON := Lib.hid (on_any w h x hb)
      clear hx hg hst
      go_wp2_with (go_at_call 259; refine HON.out.mono ?_; rintro e w2 ⟨rfl, hw⟩; obtain rfl : w = w2 := hw.symm)
      exact ⟨⟨trivial, i + 1, onP h x, by go_num, rfl, by omega, by omega, Lib.hid HST.out.symm⟩, by simp [intOf]; omega⟩
    · have hh : h = sumP cs := by rw [HH.out, List.take_of_length_le (by rw [HN.out]; omega)]
      have HX := Lib.hid hh
      clear hh
      go_wp2_with fail
      go_ret
      exact ⟨by rw [← HX.out]; rfl, rfl⟩
set_option maxRecDepth 100000 in
set_option maxHeartbeats 1000000 in
theorem sumfits_any (w : World) (s : ByteArray) (m : Nat) (hm : s.size = m + 4) (hs : s.size ≤ 1073741824) (b : Bool) (hb : b = decide (unbe (s.data.toList.drop m) = sumP (s.data.toList.take m))) :
    Calls Tryz.prog 274 #[.string s] w fun e w' => e = .returned (.bool b) ∧ Keeps (fun _ => False) w w' := by
  have hlen : s.data.toList.length = s.size := by simp
  have e4 : s.extract m s.size = str (s.data.toList.drop m) := by rw [ext_part, List.take_of_length_le (by rw [List.length_drop]; omega)]
  obtain ⟨s4, hs4⟩ : ∃ s4, s4 = s.extract m s.size := ⟨_, rfl⟩
  have hz4 : s4.size = 4 := by rw [hs4, e4, str_size, List.length_drop]; omega
  have hR := sread_sum w s4 hz4
  have l4 : s4.data.toList = s.data.toList.drop m := by rw [hs4, e4, str_list]
  have em : s.extract 0 m = str (s.data.toList.take m) := by rw [ext_part]; simp
  obtain ⟨sm, hsm⟩ : ∃ sm, sm = s.extract 0 m := ⟨_, rfl⟩
  have hzm : sm.size = m := by rw [hsm, em, str_size, List.length_take]; omega
  have lm : sm.data.toList = s.data.toList.take m := by rw [hsm, em, str_list]
  obtain ⟨v', w1, hrun, hO, k1⟩ := run_bytes_z (P := Tryz.prog) w 0 9 126 5 sm Tryz.underlying9 Tryz.underlying126 Tryz.underlying5 (Nat.zero_le _) (by omega)
  obtain ⟨a1, c1, rfl, hc1⟩ := hO.cells_
  have hul : (u8Vs sm.data.toList).length = m := by rw [u8Vs_len]; simp; exact hzm
  rw [hul] at hc1 hrun
  have hA := sall_bytes w1 a1 m c1 sm.data.toList (by simp; exact hzm) (by omega) hc1
  rw [l4] at hR
  rw [lm] at hA
  obtain ⟨n4, hn4⟩ : ∃ n4, n4 = unbe (s.data.toList.drop m) := ⟨_, rfl⟩
  obtain ⟨su, hsu⟩ : ∃ su, su = sumP (s.data.toList.take m) := ⟨_, rfl⟩
  have hsul := sumP_lt (s.data.toList.take m)
  unfold sreadV at hR
  rw [← hn4] at hR hb
  rw [← hsu] at hA hb hsul
  have HR := Lib.hid hR
  have HA := Lib.hid hA
  have HK1 := Lib.hid k1
  have hsm' := hsm.symm
  have hs4' := hs4.symm
  have hmi : (s.size : Int) - 4 = m := by omega
  have hwm : IntKind.i64.wrap ((s.size : Int) - 4) = m := by rw [hmi]; exact wrap_in (by omega) (by omega)
  have hms : (m : Int) ≤ s.size := by omega
  have hms2 : m ≤ s.size := by omega
  have HSUL := Lib.hid hsul
  clear hR hA hO k1 hul hc1 l4 lm e4 em hs4 hsm hn4 hsu hm hzm hz4 hlen hsul
  by_cases hp : n4 < 2147483647
  · have hR2 := HR.out
    rw [if_pos hp] at hR2
    have HR2 := Lib.hid hR2
    have HB := Lib.hid hb
    clear hR2 HR hb
    by_cases hq : n4 = su
    · have hbt : b = true := by rw [HB.out]; exact decide_eq_true hq
      have hqi : ((su : Int) == (n4 : Int)) = true := by rw [beq_iff_eq]; omega
      subst hbt
      clear hq
      go_enter Tryz.func274, Tryz.ntmps274
      go_wp2_with (go_at_call 282; refine HR2.out.mono ?_; rintro e w2 ⟨rfl, hw⟩; obtain rfl : w = w2 := hw.symm)
      refine HA.out.mono ?_
      rintro e w2 ⟨rfl, hw⟩
      obtain rfl : w1 = w2 := hw.symm
      go_wp2_with fail
      go_ret
      exact ⟨rfl, HK1.out⟩
    · have hbt : b = false := by rw [HB.out]; exact decide_eq_false hq
      have hqi : ((su : Int) == (n4 : Int)) = false := by rw [beq_eq_false_iff_ne]; omega
      subst hbt
      clear hq
      go_enter Tryz.func274, Tryz.ntmps274
      go_wp2_with (go_at_call 282; refine HR2.out.mono ?_; rintro e w2 ⟨rfl, hw⟩; obtain rfl : w = w2 := hw.symm)
      refine HA.out.mono ?_
      rintro e w2 ⟨rfl, hw⟩
      obtain rfl : w1 = w2 := hw.symm
      go_wp2_with fail
      go_ret
      exact ⟨rfl, HK1.out⟩
  · have hR2 := HR.out
    rw [if_neg hp] at hR2
    have HR2 := Lib.hid hR2
    have hbt : b = false := by rw [hb]; exact decide_eq_false (by have := HSUL.out; omega)
    subst hbt
    clear hR2 HR hb hp
    go_enter Tryz.func274, Tryz.ntmps274
    go_wp2_with (go_at_call 282; refine HR2.out.mono ?_; rintro e w2 ⟨rfl, hw⟩; obtain rfl : w = w2 := hw.symm)
    go_ret
    exact ⟨rfl, Keeps.refl _ _⟩
end Go.Proofs.YtkmpdobojgiegaaGreatDoor
