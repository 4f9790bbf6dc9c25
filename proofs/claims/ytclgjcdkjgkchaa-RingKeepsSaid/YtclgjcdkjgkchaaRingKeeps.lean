/-
  RingKeeps returns true, whatever its arguments: the walk.
-/
import Derived.Test.YtclgjcdkjgkchaaWorksA
import Derived.Test.YtclgjcdkjgkchaaArgs
namespace Go.Proofs.Ytclgjcdkjgkchaa
open Go.RowKit

/-- what a force leaves of all that came -/
theorem keeps_step (A s : List UInt8) (m : Nat) :
    ((A.drop (A.length - m)) ++ s).drop ((A.drop (A.length - m)).length + s.length - m) = (A ++ s).drop ((A ++ s).length - m) ∧ (A.length - m) + ((A.drop (A.length - m)).length + s.length - m) = (A ++ s).length - m := by
  have h2 : (A.length - m) + ((A.drop (A.length - m)).length + s.length - m) = (A ++ s).length - m := by simp; omega
  refine ⟨?_, h2⟩
  rw [← h2, ← List.drop_drop]
  congr 1
  rw [List.drop_append_of_le_length (by omega)]

set_option maxRecDepth 100000 in
set_option maxHeartbeats 1000000 in
theorem ringKeeps_walk (w : World) (most : Int) (a : Option Addr) (n cap : Nat) (l : List ByteArray) (hmost : (Lit.int .u8 most).wf = true) (hl : SlAt strR 1 w a n l ∧ ∀ s ∈ l, s.size ≤ maxLen) :
    Calls Try.prog 4 #[.int .u8 most, .slice a n cap] w fun e w' => e = .returned (.bool true) ∧ Keeps (fun _ => False) w w' := by
  have hm0 : 0 ≤ most ∧ most ≤ 255 := by simpa [Lit.wf, IntKind.min, IntKind.max, IntKind.signed, IntKind.bits] using hmost
  obtain ⟨m0, rfl⟩ := Int.eq_ofNat_of_zero_le hm0.1
  have hm1 : m0 ≤ 255 := by omega
  clear hmost hm0
  have hn := new_ok w (m0 + 1) (by omega) (by omega)
  rw [show ((m0 + 1 : Nat) : Int) = (m0 : Int) + 1 from by simp] at hn
  have Hn := Lib.hid hn
  clear hn
  obtain ⟨hl1, hl2⟩ := hl
  have hln := hl1.1
  by_cases hbig : 40 < n
  · go_enter Try.func4, Try.ntmps4
    go_wp2_with (first | (go_at_call 10; refine (Hn.out).mono ?_; rintro e w1 ⟨g, b, rfl, hg, hb, k1, r1⟩) | (go_at_call 9; refine (works04 _).mono ?_; rintro e w2 ⟨rfl, k2⟩))
    go_ret
    exact ⟨rfl, k1.trans k2⟩
  · have hbig2 : n ≤ 40 := by omega
    clear hbig
    go_enter Try.func4, Try.ntmps4
    go_wp2_with (first | (go_at_call 10; refine (Hn.out).mono ?_; rintro e w1 ⟨g, b, rfl, hg, hb, k1, r1⟩))
    go_loopw [8, 9, 10] (fun u8 u9 u10 wr => ∃ (k q : Nat) (all : ByteArray), k ≤ n ∧ u10 = .int .i64 k ∧ u8 = .string all ∧ u9 = .int .i64 q ∧ q = all.size - (m0 + 1) ∧ all.size ≤ 200 * k ∧
        IsRing wr g b (m0 + 1) (all.data.toList.drop q) q ∧ Keeps (fun _ => False) w wr) (fun _ _ u10 _ => n - (intOf u10).toNat)
    case atStart => exact ⟨0, 0, ⟨#[]⟩, by omega, rfl, rfl, rfl, by simp [ByteArray.size], by decide, r1, k1⟩
    case round =>
      obtain ⟨k, q, all, hk, rfl, rfl, rfl, hq, hsz, hR, hK⟩ := hrel
      have hT := hR.fits
      have Hq := Lib.hid hq
      clear hq
      by_cases hlt : k < n
      · obtain ⟨s, hs⟩ : ∃ s, l[k]? = some s := ⟨l[k]'(by omega), List.getElem?_eq_getElem (by omega)⟩
        obtain ⟨b2, off, rfl, hb2, hc⟩ := (hl1.keeps hK (fun _ _ h => h)).2 (by omega)
        have hcell := SlAt.str hc k s hs
        clear hc
        by_cases hbs : 200 < s.size
        · go_wp2_with (go_at_call 9; refine (works04 _).mono ?_; rintro e w2 ⟨rfl, k2⟩)
          go_ret
          exact ⟨rfl, hK.trans k2⟩
        · have hbs2 : s.size ≤ 200 := by omega
          clear hbs
          obtain ⟨all2, hall⟩ : ∃ all2, all ++ s = all2 := ⟨_, rfl⟩
          have hsz2 : all2.size = all.size + s.size := by rw [← hall]; simp
          have hdat : all2.data.toList = all.data.toList ++ s.data.toList := by rw [← hall]; simp
          obtain ⟨d, hd⟩ : ∃ d, d = (all.data.toList.drop q).length + s.size - (m0 + 1) := ⟨_, rfl⟩
          obtain ⟨q2, hq2⟩ : ∃ q2, q2 = all2.size - (m0 + 1) := ⟨_, rfl⟩
          have hst := keeps_step all.data.toList s.data.toList (m0 + 1)
          rw [← hdat] at hst
          have hAl : all.data.toList.length = all.size := by simp
          have hSl : s.data.toList.length = s.size := by simp
          have hBl : all2.data.toList.length = all2.size := by simp
          rw [hAl, hSl, hBl, ← Hq.out, ← hd, ← hq2] at hst
          obtain ⟨hst1, hst2⟩ := hst
          have he : (q : Int) + (d : Int) = (q2 : Int) := by omega
          have hF := force_any wr g b (m0 + 1) _ _ s hR (by unfold maxLen; omega) (by have := Hq.out; omega)
          rw [← hd, hst1, hst2] at hF
          have HF := Lib.hid hF
          have hm3 : all2.size ≤ 200 * (k + 1) := by omega
          have HD := Lib.hid hsz2
          have HQ := Lib.hid hq2
          clear hF hst1 hst2 hd hq2 hsz2 hdat hAl hSl hBl
          have hS : str (all2.data.toList.drop q2) = all2.extract q2 all2.size := by rw [← ext_list]; rfl
          have hL : ((all2.data.toList.drop q2).length : Int) = ((all2.size - q2 : Nat) : Int) := by simp
          have HS := Lib.hid hS
          have HL := Lib.hid hL
          clear hS hL
          have ex0 : all2.extract 0 all2.size = all2 := ba_ext (by simp)
          have hw2 : IntKind.i64.wrap ((all2.size : Int) - ((m0 : Int) + 1)) = (all2.size : Int) - ((m0 : Int) + 1) := wrap_in (by omega) (by omega)
          have hw3 : IntKind.i64.wrap ((q2 : Int) + ((all2.size - q2 : Nat) : Int)) = all2.size := by have := HQ.out; rw [wrap_in (by omega) (by omega)]; omega
          by_cases hcs : all2.size ≤ m0 + 1
          · have hz : q2 = 0 := by have := HQ.out; omega
            subst hz
            have n1 : ((0 : Int) < (all2.size : Int) - ((m0 : Int) + 1)) = False := eq_false (by omega)
            have n2 : ((m0 : Int) + 1 < (all2.size : Int)) = False := eq_false (by omega)
            have hw4 : IntKind.i64.wrap (all2.size : Int) = all2.size := wrap_in (by omega) (by omega)
            have n3 : (all2.size : Int) ≤ (m0 : Int) + 1 := by omega
            go_wp2_with (go_at_call 14; go_must (refine HF.out.mono ?_; rintro e w2 ⟨rfl, k2, r2⟩))
            go_region_held3 (fun w' => Keeps (fun _ => False) w2 w')
              ((first | exact (Keeps.refl _ _).drew | exact kk))
              (first
                | (go_at_call 20; rename_i hk _ _; refine (itext_any _ g b _ _ _ (r2.keeps hk id id)).mono ?_; rw [HS.out, ex0]; rintro e w3 ⟨rfl, k3⟩; have kk := hk.trans k3)
                | (go_at_call 21; rename_i hk _ _; refine (Qt.k (igone_any _ g b _ _ _ (r2.keeps hk id id))).mono ?_; rintro e w3 ⟨rfl, k3⟩; have kk := hk.trans k3)
                | (go_at_call 22; rename_i hk _ _; refine (Qt.k (ilen_any _ g b _ _ _ (r2.keeps hk id id))).mono ?_; rw [HL.out]; rintro e w3 ⟨rfl, k3⟩; have kk := hk.trans k3))
            all_goals
              rename_i kk
              go_wp2
              go_roundw
              case rel => exact ⟨k + 1, 0, all2, by omega, by go_num, rfl, rfl, HQ.out, by omega, r2.keeps kk id id, (hK.and_ k2 (fun i hi h => by omega)).trans kk⟩
              case measure => simp [intOf]; omega
          · have hz1 : (all2.size : Int) - ((m0 : Int) + 1) = q2 := by have := HQ.out; omega
            have hz0 : 0 < q2 := by have := HQ.out; omega
            have hz2 : q2 ≤ all2.size := by have := HQ.out; omega
            have n1 : ((0 : Int) < (q2 : Int)) = True := eq_true (by omega)
            have n2 : ((m0 : Int) + 1 < (all2.size : Int)) = True := eq_true (by omega)
            have n3 : (0 < q2) = True := eq_true hz0
            have hw4 : IntKind.i64.wrap (q2 : Int) = q2 := wrap_in (by omega) (by omega)
            go_wp2_with (go_at_call 14; go_must (refine HF.out.mono ?_; rintro e w2 ⟨rfl, k2, r2⟩))
            go_region_held3 (fun w' => Keeps (fun _ => False) w2 w')
              ((first | exact (Keeps.refl _ _).drew | exact kk))
              (first
                | (go_at_call 20; rename_i hk _ _; refine (itext_any _ g b _ _ _ (r2.keeps hk id id)).mono ?_; rw [HS.out]; rintro e w3 ⟨rfl, k3⟩; have kk := hk.trans k3)
                | (go_at_call 21; rename_i hk _ _; refine (Qt.k (igone_any _ g b _ _ _ (r2.keeps hk id id))).mono ?_; rintro e w3 ⟨rfl, k3⟩; have kk := hk.trans k3)
                | (go_at_call 22; rename_i hk _ _; refine (Qt.k (ilen_any _ g b _ _ _ (r2.keeps hk id id))).mono ?_; rw [HL.out]; rintro e w3 ⟨rfl, k3⟩; have kk := hk.trans k3))
            all_goals
              rename_i kk
              go_wp2
              go_roundw
              case rel => exact ⟨k + 1, q2, all2, by omega, by go_num, rfl, rfl, HQ.out, by omega, r2.keeps kk id id, (hK.and_ k2 (fun i hi h => by omega)).trans kk⟩
              case measure => simp [intOf]; omega
      · have hk2 : k = n := by omega
        go_wp2_with (go_at_call 9; refine (works04 _).mono ?_; rintro e w2 ⟨rfl, k2⟩)
        go_ret
        exact ⟨rfl, hK.trans k2⟩
end Go.Proofs.Ytclgjcdkjgkchaa
