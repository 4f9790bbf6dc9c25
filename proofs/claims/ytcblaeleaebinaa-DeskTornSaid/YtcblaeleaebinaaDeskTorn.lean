/-
  DeskTorn returns true, whatever its arguments: the walk.
-/
import Derived.Test.YtcblaeleaebinaaWorks32
import Derived.Test.YtcblaeleaebinaaArgs
import Derived.Test.YtcblaeleaebinaaRef28
namespace Go.Proofs.Ytcblaeleaebinaa
open Go.RowKit

theorem str_app (a : ByteArray) (l : List UInt8) : (a ++ str l).data.toList = a.data.toList ++ l := by simp [str]

/-- what is sent, and what waits, are the bytes -/
theorem sent_more (got got2 snt : ByteArray) (FL : Flow) (D : List UInt8) (k : Nat) (h : got.data.toList ++ FL.map Prod.fst = D) (hs : snt = str ((FL.take k).map Prod.fst)) (h2 : got ++ snt = got2) : got2.data.toList ++ (FL.drop k).map Prod.fst = D := by
  rw [← h2, hs, str_app, List.append_assoc, ← List.map_append, List.take_append_drop, h]

set_option maxRecDepth 100000 in
set_option maxHeartbeats 2000000 in
theorem deskTorn_walk (w : World) (keeps : Int) (a : Option Addr) (n cap : Nat) (l : List ByteArray) (num : Int) (hkeeps : (Lit.int .u8 keeps).wf = true) (hl : SlAt strR 1 w a n l ∧ ∀ s ∈ l, s.size ≤ maxLen) (hnum : (Lit.int .u8 num).wf = true) :
    Calls Try.prog 3 #[.int .u8 keeps, .slice a n cap, .int .u8 num] w fun e w' => e = .returned (.bool true) ∧ Keeps (fun _ => False) w w' := by
  have hm0 : 0 ≤ keeps ∧ keeps ≤ 255 := by simpa [Lit.wf, IntKind.min, IntKind.max, IntKind.signed, IntKind.bits] using hkeeps
  have hn0 : 0 ≤ num ∧ num ≤ 255 := by simpa [Lit.wf, IntKind.min, IntKind.max, IntKind.signed, IntKind.bits] using hnum
  obtain ⟨m0, rfl⟩ := Int.eq_ofNat_of_zero_le hm0.1
  have hm1 : m0 ≤ 255 := by omega
  obtain ⟨num, rfl⟩ := Int.eq_ofNat_of_zero_le hn0.1
  have hn1 : num ≤ 255 := by omega
  clear hkeeps hm0 hnum hn0
  have hn := pnew_ok w (m0 + 1) (by omega) (by omega)
  rw [show ((m0 + 1 : Nat) : Int) = (m0 : Int) + 1 from by simp] at hn
  have Hn := Lib.hid hn
  clear hn
  obtain ⟨hl1, hl2⟩ := hl
  have hln := hl1.1
  go_enter Try.func3, Try.ntmps3
  go_wp2_with fail
  refine Hn.out.mono ?_
  rintro e w1 ⟨p, g, b, rfl, l1, l2, l3, k1, hp⟩
  go_wp2_with fail
  refine (bnew (w0 := w) (most := 1048576) k1.none_ hp ⟨l1, l2, l3⟩ (by decide) (by decide) (by decide)).mono ?_
  rintro e w2 ⟨rfl, h2⟩
  obtain ⟨d, hd⟩ : ∃ d, d = w1.heap.size := ⟨_, rfl⟩
  rw [← hd] at h2 ⊢
  clear hd hp l1 l2 l3 k1 Hn
  have fin : ∀ w' : World, Keeps (fun i => w.heap.size ≤ i) w w' → Keeps (fun _ => False) w w' := fun w' k => k.mono fun i hi e => by omega
  have FIN := Lib.hid fin
  clear fin
  by_cases hbig : 30 < n
  · go_wp2_with (go_at_call 10; refine (works32 _).mono ?_; rintro e w3 ⟨rfl, k3⟩)
    go_ret
    exact ⟨rfl, (FIN.out _ h2.kk).trans k3⟩
  · have hbig2 : n ≤ 30 := by omega
    clear hbig
    go_wp2_with fail
    go_loopw [11, 12, 13] (fun u11 u12 u13 wr => ∃ (k : Nat) (all got : ByteArray) (torn : Bool) (bg : List UInt8) (FL : Flow), k ≤ n ∧ u13 = .int .i64 k ∧ u11 = .string all ∧ u12 = .string got ∧ all.size ≤ 60 * k ∧
        Bench w wr p g b (m0 + 1) d d all.data.toList 1048576 torn bg FL ∧ got.data.toList ++ FL.map Prod.fst = dblP all.data.toList) (fun _ _ u13 _ => n - (intOf u13).toNat)
    case atStart => exact ⟨0, ⟨#[]⟩, ⟨#[]⟩, false, [], [], by omega, rfl, rfl, rfl, by decide, h2, rfl⟩
    case round =>
      obtain ⟨k, all, got, torn, bg, FL, hk, rfl, rfl, rfl, hsz, hB, hG⟩ := hrel
      have hAl : all.data.toList.length = all.size := by simp
      have hdl := dblP_len all.data.toList
      rw [hAl] at hdl
      have hgs : got.size + FL.length = (dblP all.data.toList).length := by rw [← hG]; simp
      have HG := Lib.hid hG
      have HB := Lib.hid hB
      have HGS := Lib.hid hgs
      have HDL := Lib.hid hdl
      have hgb : got.size ≤ 3600 ∧ FL.length ≤ 3600 := by omega
      clear hG hB hAl hdl hgs
      by_cases hlt : k < n
      · obtain ⟨s, hs⟩ : ∃ s, l[k]? = some s := ⟨l[k]'(by omega), List.getElem?_eq_getElem (by omega)⟩
        obtain ⟨b2, off, rfl, hb2, hc⟩ := hl1.2 (by omega)
        have hcw : ∀ w', Keeps (fun _ => False) w w' → w'.cell? ⟨b2, off + k, none⟩ = some (.string s) := fun w' kk => by rw [kk.cellq _ _ hb2]; exact SlAt.str hc k s hs
        have hcell := hcw wr (FIN.out _ HB.out.kk)
        have HCW := Lib.hid hcw
        clear hc hcw
        by_cases hb1 : m0 < s.size
        · go_wp2_with fail
          go_roundw
          case rel => exact ⟨k + 1, all, got, torn, bg, FL, by omega, by go_num, rfl, rfl, by omega, HB.out, HG.out⟩
          case measure => simp [intOf]; omega
        · by_cases hb60 : 60 < s.size
          · go_wp2_with fail
            go_roundw
            case rel => exact ⟨k + 1, all, got, torn, bg, FL, by omega, by go_num, rfl, rfl, by omega, HB.out, HG.out⟩
            case measure => simp [intOf]; omega
          · obtain ⟨all2, hall⟩ : ∃ all2, all ++ s = all2 := ⟨_, rfl⟩
            have hsz2 : all2.size = all.size + s.size := by rw [← hall]; simp
            have hdat : all2.data.toList = all.data.toList ++ s.data.toList := by rw [← hall]; simp
            have hAl : all.data.toList.length = all.size := by simp
            have hSl : s.data.toList.length = s.size := by simp
            have hseg : (all2.data.toList.drop all.size).take (all.size + s.size - all.size) = s.data.toList := by
              rw [hdat, ← hAl, List.drop_left, List.take_of_length_le (by omega)]
            have hG2 : got.data.toList ++ (FL ++ dblF s.data.toList).map Prod.fst = dblP all2.data.toList := by
              rw [List.map_append, dblF_fst, ← List.append_assoc, HG.out, hdat, dblP_app]
            have hA2 : all2.data.toList.length = all.size + s.size := by simp [hsz2]
            have hbs := hb60
            have hsb : s.size ≤ 60 ∧ s.size ≤ m0 := by omega
            have hadd := badd s HB.out (by rw [hAl]; omega)
            rw [← hdat] at hadd
            have HADD := Lib.hid hadd
            have HSEG := Lib.hid hseg
            have HG2 := Lib.hid hG2
            have HA2 := Lib.hid hA2
            have HSZ2 := Lib.hid hsz2
            have hwa : IntKind.i64.wrap ((all.size : Int) + (s.size : Int)) = (all.size : Int) + s.size := wrap_in (by omega) (by omega)
            clear hadd hseg hG2 hA2 hAl hSl hdat hbs hsz2
            go_wp2_with fail
            refine HADD.out.mono ?_
            rintro e w3 ⟨rfl, h3⟩
            have hc3 := HCW.out w3 (FIN.out _ h3.kk)
            have hsh := bshow all.size (all.size + s.size) h3 (by rw [HA2.out]; omega) (by omega) (by rw [HA2.out]; omega) (by omega)
            rw [HSEG.out, Int.natCast_add] at hsh
            have HSH := Lib.hid hsh
            clear hsh
            go_wp2_with fail
            refine HSH.out.mono ?_
            rintro e w4 ⟨rfl, h4⟩
            have hc4 := HCW.out w4 (FIN.out _ h4.kk)
            have hmod : ((k : Int)).tmod 3 = ((k % 3 : Nat) : Int) := tmod_nat k 3
            by_cases h3m : k % 3 = 2
            · have hmb : (((k % 3 : Nat) : Int) == 2) = true := by rw [h3m]; rfl
              clear h3m
              go_wp2_with fail
              refine (bemit (num : Int) h4 (by omega)).mono ?_
              rintro e w5 ⟨kq, torn5, bg5, rfl, h5, -, -, -⟩
              obtain ⟨snt, hsnt⟩ : ∃ snt, snt = str (((FL ++ dblF s.data.toList).take kq).map Prod.fst) := ⟨_, rfl⟩
              rw [← hsnt]
              obtain ⟨got2, hgot⟩ : ∃ got2, got ++ snt = got2 := ⟨_, rfl⟩
              have hG5 := sent_more got got2 snt _ _ kq HG2.out hsnt hgot
              have hss : snt.size ≤ 3720 := by
                have h6 := congrArg List.length HG2.out
                have h7 := dblP_len all2.data.toList
                rw [HA2.out] at h7
                rw [hsnt, str_size, List.length_map, List.length_take]
                simp only [List.length_append, List.length_map] at h6 ⊢
                omega
              have HG5 := Lib.hid hG5
              clear hG5 hsnt
              go_wp2_with fail
              go_roundw
              case rel => exact ⟨k + 1, all2, got2, torn5, bg5, _, by omega, by go_num, rfl, rfl, by rw [HSZ2.out]; omega, h5, HG5.out⟩
              case measure => simp [intOf]; omega
            · have hmb : (((k % 3 : Nat) : Int) == 2) = false := by rw [beq_eq_false_iff_ne]; omega
              clear h3m
              go_wp2_with fail
              go_roundw
              case rel => exact ⟨k + 1, all2, got, torn, bg, _, by omega, by go_num, rfl, rfl, by rw [HSZ2.out]; omega, h4, HG2.out⟩
              case measure => simp [intOf]; omega
      · have hk2 : k = n := by omega
        subst hk2
        go_wp2_with fail
        refine (bemit 1048576 HB.out (by decide)).mono ?_
        rintro e w5 ⟨kq, torn5, bg5, rfl, h5, -, -, ht⟩
        obtain ⟨snt, hsnt⟩ : ∃ snt, snt = str ((FL.take kq).map Prod.fst) := ⟨_, rfl⟩
        rw [← hsnt]
        obtain ⟨got2, hgot⟩ : ∃ got2, got ++ snt = got2 := ⟨_, rfl⟩
        have hG5 := sent_more got got2 snt _ _ kq HG.out hsnt hgot
        have hss : snt.size ≤ 3600 := by rw [hsnt, str_size, List.length_map, List.length_take]; omega
        have hgl : got2.data.toList.length = got2.size := by simp
        have hfin : (FL.drop kq).length ≤ 3600 ∧ (torn5 = false → str (dblP all.data.toList) = got2) := by
          refine ⟨by rw [List.length_drop]; omega, fun h6 => ?_⟩
          rcases ht with ⟨h7, _⟩ | ⟨h7, _⟩
          · have h8 : FL.drop kq = [] := List.drop_eq_nil_of_le (by rw [h7, show (1048576 : Int).toNat = 1048576 from rfl]; omega)
            rw [h8, List.map_nil, List.append_nil] at hG5
            rw [← hG5]; rfl
          · rw [h6] at h7; cases h7
        have hle : got2.size ≤ (dblP all.data.toList).length := by rw [← hG5, List.length_append]; omega
        have hpre : (str (dblP all.data.toList)).extract 0 got2.size = got2 := by
          rw [str_ext0, ← hG5, ← hgl, List.take_left]; rfl
        have HG5 := Lib.hid hG5
        have HT := Lib.hid ht
        have HFIN := Lib.hid hfin
        have hdat := rdata_any w5 all (by omega)
        obtain ⟨want, hwant⟩ : ∃ want, want = str (dblP all.data.toList) := ⟨_, rfl⟩
        have hwl : want.size = (dblP all.data.toList).length := by rw [hwant]; rfl
        rw [← hwant] at hdat hpre
        rw [← hwl] at hle
        have HWL := Lib.hid hwl
        have HW := Lib.hid hwant
        have HDAT := Lib.hid hdat
        clear hG5 ht hsnt hgl hfin hdat hwant hwl
        go_wp2_with fail
        refine HDAT.out.mono ?_
        rintro e w6 ⟨rfl, k6⟩
        have h6 := h5.same k6
        by_cases hlate : torn5 = true
        · subst hlate
          go_wp2_with (first
            | (go_at_call 15; go_must (refine (blate h6).mono ?_; rw [Bool.or_true]; rintro e w7 ⟨rfl, n7, rfl⟩; have h7 := h6.same ((Keeps.refl (fun _ => False) w6).drewN n7)))
            | (go_at_call 10; refine (works32 _).mono ?_; rintro e w8 ⟨rfl, k8⟩))
          go_ret
          exact ⟨rfl, (FIN.out _ h7.kk).trans k8⟩
        · have htf : torn5 = false := by simpa using hlate
          subst htf
          have hwg : want = got2 := by rw [HW.out]; exact HFIN.out.2 rfl
          subst hwg
          have hlt7 : decide (1048576 < (FL.drop kq).length) = false := by simp only [decide_eq_false_iff_not]; have := HFIN.out.1; omega
          clear hlate
          go_wp2_with (first
            | (go_at_call 15; go_must (refine (blate h6).mono ?_; rw [hlt7, Bool.or_false]; rintro e w7 ⟨rfl, n7, rfl⟩; have h7 := h6.same ((Keeps.refl (fun _ => False) w6).drewN n7)))
            | (go_at_call 10; refine (works32 _).mono ?_; rintro e w8 ⟨rfl, k8⟩))
          go_ret
          exact ⟨rfl, (FIN.out _ h7.kk).trans k8⟩
end Go.Proofs.Ytcblaeleaebinaa
