/-
  RestoreTail: the last lines that are made again of any items are the longest end of what the console told that may be there.
-/
import Derived.Test.YtdbnalocmjkncaaGreatQWorks23
import Derived.Test.YtdbnalocmjkncaaGreatQTailD
import Derived.Test.YtdbnalocmjkncaaGreatQOps22
namespace Go.Proofs.YtdbnalocmjkncaaGreat
open Go.RowKit Go.Maps

set_option maxRecDepth 100000 in
set_option maxHeartbeats 2000000 in
theorem restoreTail_any (w : World) (a : Option Addr) (n c : Nat) (l : List Itm) (lines bytes : Int) (hl : SlAt itmR 3 w a n l ∧ ∀ x ∈ l, x.good) (hm : Lit.wf (.int .u8 lines) = true) (hq : Lit.wf (.int .u8 bytes) = true) (he : Ety w) :
    Calls Tryz.prog 4 #[.slice a n c, .int .u8 lines, .int .u8 bytes] w fun e w' => e = .returned (.bool true) ∧ Keeps (fun _ => False) w w' := by
  have hm : 0 ≤ lines ∧ lines ≤ 255 := by simpa [Lit.wf, IntKind.min, IntKind.max, IntKind.signed, IntKind.bits] using hm
  have hq : 0 ≤ bytes ∧ bytes ≤ 255 := by simpa [Lit.wf, IntKind.min, IntKind.max, IntKind.signed, IntKind.bits] using hq
  obtain ⟨ln, rfl⟩ := Int.eq_ofNat_of_zero_le hm.1
  obtain ⟨bn, rfl⟩ := Int.eq_ofNat_of_zero_le hq.1
  have hm2 : ln ≤ 255 := by omega
  have hq2 : bn ≤ 255 := by omega
  have HW := Lib.hid (fun W (k : Keeps (fun _ => False) w W) => works23 W (ety_keeps he k (fun _ _ => id)))
  have HL := Lib.hid hl.1
  have HN := Lib.hid hl.1.1
  clear hl he hm hq
  by_cases h30 : 30 < n
  · have hg2 : (30 : Int) < n := by omega
    go_enter Tryz.func4, Tryz.ntmps4
    go_wp2_with fail
    refine (HW.out _ (Keeps.refl _ _)).mono ?_
    rintro e w1 ⟨rfl, k1⟩
    have HK1 := Lib.hid k1
    clear k1
    go_wp2_with fail
    go_ret
    exact ⟨rfl, HK1.out⟩
  · have hg2 : ¬ (30 : Int) < n := by omega
    go_enter Tryz.func4, Tryz.ntmps4
    go_wp2_with fail
    go_loopw [7] (fun u7 wr => w = wr ∧ ∃ i : Nat, u7 = .int .i64 i ∧ i ≤ n ∧ Hid (∀ (j : Nat) x, j < i → l[j]? = some x → x.body.size ≤ 30)) (fun u7 _ => n - (intOf u7).toNat)
    case atStart => exact ⟨rfl, 0, rfl, Nat.zero_le _, Lib.hid (fun j x h => absurd h (by omega))⟩
    case round =>
      obtain ⟨rfl, i, rfl, hi, HI⟩ := hrel
      by_cases hlt : i < n
      · obtain ⟨x, hx⟩ : ∃ x, l[i]? = some x := ⟨_, List.getElem?_eq_getElem (by rw [HN.out]; exact hlt)⟩
        obtain ⟨b2, off, rfl, _, hc⟩ := itm_at HL.out hx
        obtain ⟨x0, x1, x2⟩ := hc w (Keeps.refl _ _)
        have HX := Lib.hid hx
        clear hx hc x0 x1
        by_cases hb : 30 < x.body.size
        · have hb2 : (30 : Int) < x.body.size := by omega
          go_wp2_with fail
          refine (HW.out _ (Keeps.refl _ _)).mono ?_
          rintro e w1 ⟨rfl, k1⟩
          have HK1 := Lib.hid k1
          clear k1
          go_wp2_with fail
          go_ret
          exact ⟨rfl, HK1.out⟩
        · have hb2 : ¬ (30 : Int) < x.body.size := by omega
          have HB := Lib.hid (show x.body.size ≤ 30 by omega)
          clear hb
          go_wp2_with fail
          refine ⟨⟨trivial, i + 1, by go_num, by omega, fun j y hj hy => ?_⟩, by simp [intOf]; omega⟩
          rcases Nat.lt_or_ge j i with h | h
          · exact HI.out j y h hy
          · obtain rfl : j = i := by omega
            obtain rfl : x = y := by have := HX.out; rw [this] at hy; exact Option.some.inj hy
            exact HB.out
      · have hz : ∀ x ∈ l, x.body.size ≤ 30 := by
          intro x hx
          obtain ⟨j, hj, he⟩ := List.getElem_of_mem hx
          exact HI.out j x (by rw [← HN.out] at hlt; omega) (by rw [List.getElem?_eq_getElem hj, he])
        have HZ := Lib.hid hz
        have hdl := dataP_len hz
        rw [HN.out] at hdl
        have hn30 : n ≤ 30 := by omega
        have HRT := Lib.hid (fun W (k : Keeps (fun _ => False) w W) => r23tail_any W a n c l (HL.out.keeps k (fun _ _ => id)) (by omega) (fun x hx => by have := HZ.out x hx; omega) ln bn)
        have HRD := Lib.hid (fun W (k : Keeps (fun _ => False) w W) => rdata_any W a n c l (HL.out.keeps k (fun _ _ => id)) (by omega) (fun x hx => by have := HZ.out x hx; omega))
        clear hz HI h30
        by_cases h0 : ln = 0 ∨ bn = 0
        · have HRB := Lib.hid (restail_bad w (.slice a n c) ln bn (by omega))
          have hd : (ln = 0 ∨ (ln ≠ 0 ∧ bn = 0)) := by omega
          clear h0
          rcases hd with rfl | ⟨h0, rfl⟩
          all_goals
            try (have h0i : ((ln : Int) == 0) = false := by rw [beq_eq_false_iff_ne]; omega)
            go_wp2_with fail
            refine HRB.out.mono ?_
            rintro e w2 ⟨rfl, hw⟩
            obtain rfl : w = w2 := hw.symm
            go_wp2_with fail
            refine (HW.out _ (Keeps.refl _ _)).mono ?_
            rintro e w1 ⟨rfl, k1⟩
            have HK1 := Lib.hid k1
            clear k1
            go_wp2_with fail
            go_ret
            exact ⟨rfl, HK1.out⟩
        · have h0i : ((ln : Int) == 0) = false := by rw [beq_eq_false_iff_ne]; omega
          have h1i : ((bn : Int) == 0) = false := by rw [beq_eq_false_iff_ne]; omega
          have HRB := Lib.hid (restail_ok w a n c l HL.out (by omega) (fun x hx => by have := HZ.out x hx; omega) ln bn (by omega) (by omega))
          clear h0
          go_wp2_with fail
          refine HRB.out.mono ?_
          rintro e w2 ⟨⟨t, g, b, rfl, ht, hg, hb, T2⟩, k2⟩
          have HT2 := Lib.hid T2
          have HK2 := Lib.hid k2
          have htt := ttext T2
          obtain ⟨D, hD⟩ : ∃ D, D = str (tailP bn ln (dataP l)) := ⟨_, rfl⟩
          rw [← hD] at htt HRT
          have HTT := Lib.hid htt
          clear T2 k2 ht hg hb htt hD
          go_wp2_with fail
          refine HTT.out.mono ?_
          rintro e w3 ⟨rfl, k3⟩
          have HK3 := Lib.hid (HK2.out.trans k3)
          have HT3 := Lib.hid (HT2.out.same k3)
          clear k3
          go_wp2_with fail
          refine (HRT.out _ HK3.out).mono ?_
          rintro e w4 ⟨rfl, hw⟩
          obtain rfl : w3 = w4 := hw.symm
          go_wp2_with fail
          refine (tcame HT3.out).mono ?_
          rintro e w4 ⟨rfl, hw⟩
          obtain rfl : w3 = w4 := hw.symm
          go_wp2_with fail
          refine (HRD.out _ HK3.out).mono ?_
          rintro e w4 ⟨rfl, hw⟩
          obtain rfl : w3 = w4 := hw.symm
          have hsz : (str (dataP l)).size = (dataP l).length := str_size _
          go_wp2_with fail
          refine (HW.out _ HK3.out).mono ?_
          rintro e w1 ⟨rfl, k1⟩
          have HK1 := Lib.hid (HK3.out.trans k1)
          clear k1
          go_wp2_with fail
          go_ret
          exact ⟨rfl, HK1.out⟩
theorem restoreTail_walk (w : World) (a : Option Addr) (n c : Nat) (l : List Itm) (lines bytes : Int) (hl : SlAt itmR 3 w a n l ∧ ∀ x ∈ l, x.good) (hm : Lit.wf (.int .u8 lines) = true) (hq : Lit.wf (.int .u8 bytes) = true) :
    Calls Tryz.prog 4 #[.slice a n c, .int .u8 lines, .int .u8 bytes] w fun e w' => e = .returned (.bool true) ∧ Keeps (fun _ => False) w w' :=
  restoreTail_any w a n c l lines bytes hl hm hq trivial
end Go.Proofs.YtdbnalocmjkncaaGreat
