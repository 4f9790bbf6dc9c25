/-
  DeskHolds returns true, whatever its arguments: the walk.
-/
import Derived.Test.YtcblaeleaebinaaBench2
import Derived.Test.YtcblaeleaebinaaArgs
import Derived.Test.YtcblaeleaebinaaRef28
namespace Go.Proofs.Ytcblaeleaebinaa
open Go.RowKit

theorem DeskAt.anyE {w : World} {E : Nat → PastD} {d : Nat} {F : Nat → Prop} {most : Nat} {torn : Bool} {bg : List UInt8} {v : Value} (h : DeskAt w E d F most torn bg [] v) (E2 : Nat → PastD) : DeskAt w E2 d F most torn bg [] v :=
  ⟨h.top, h.own, (fun q hq => by cases hq), h.dist, h.inD, h.inV, h.inX, h.mst, h.fit⟩

set_option maxRecDepth 100000 in
set_option maxHeartbeats 2000000 in
theorem deskHolds_walk (w : World) (s : ByteArray) (num : Int) (a : Option Addr) (n cap : Nat) (l : List ByteArray) (_hs : s.size ≤ maxLen) (hnum : (Lit.int .i64 num).wf = true) (hl : SlAt strR 1 w a n l ∧ ∀ s ∈ l, s.size ≤ maxLen) :
    Calls Try.prog 6 #[.string s, .int .i64 num, .slice a n cap] w fun e w' => e = .returned (.bool true) ∧ Keeps (fun _ => False) w w' := by
  have hn0 : -9223372036854775808 ≤ num ∧ num ≤ 9223372036854775807 := by simpa [Lit.wf, IntKind.min, IntKind.max, IntKind.signed, IntKind.bits] using hnum
  clear hnum
  obtain ⟨hl1, hl2⟩ := hl
  have hln := hl1.1
  have fin : ∀ w' : World, Keeps (fun i => w.heap.size ≤ i) w w' → Keeps (fun _ => False) w w' := fun w' k => k.mono fun i hi e => by omega
  have FIN := Lib.hid fin
  clear fin
  by_cases hb1 : 300 < s.size
  · go_enter Try.func6, Try.ntmps6
    go_wp2_with (go_at_call 10; refine (works32 _).mono ?_; rintro e w3 ⟨rfl, k3⟩)
    go_ret
    exact ⟨rfl, k3⟩
  by_cases hb2 : 20 < n
  · go_enter Try.func6, Try.ntmps6
    go_wp2_with (go_at_call 10; refine (works32 _).mono ?_; rintro e w3 ⟨rfl, k3⟩)
    go_ret
    exact ⟨rfl, k3⟩
  go_enter Try.func6, Try.ntmps6
  go_wp2_with fail
  refine (dnew_ok w (E1 0 0 0 []) 1048576 (by decide) (by decide)).mono ?_
  rintro e w1 ⟨rfl, k1, hd1⟩
  obtain ⟨d, hd⟩ : ∃ d, d = w.heap.size := ⟨_, rfl⟩
  rw [← hd] at hd1 ⊢
  have HD := Lib.hid hd
  clear hd
  go_wp2_with fail
  refine (bpast (w0 := w) (most := 1048576) 300 k1.none_ (fun E => hd1.anyE E) (by have := HD.out; omega) (by decide) (by decide)).mono ?_
  rintro e w2 ⟨p, g, b, rfl, h2⟩
  have hsl : s.data.toList.length = s.size := by simp
  obtain ⟨B, hB⟩ : ∃ B, B = w2.heap.size := ⟨_, rfl⟩
  rw [← hB] at h2
  have HH2 := Lib.hid h2
  have HSL := Lib.hid hsl
  have hs3 : s.size ≤ 300 := by omega
  have hn3 : n ≤ 20 := by omega
  have hmin : -9223372036854775808 ≤ min num 100 ∧ min num 100 ≤ 9223372036854775807 := by omega
  have HMIN := Lib.hid hmin
  clear hd1 k1 hB h2 hsl hb1 hb2 hn0 hmin
  go_wp2_with fail
  refine (badd s HH2.out (by show 0 + _ ≤ _; omega)).mono ?_
  rintro e w3 ⟨rfl, h3⟩
  rw [List.nil_append] at h3
  have HH3 := Lib.hid h3
  have hsh := bshow 0 s.size h3 (by rw [HSL.out]; omega) (by omega) (by rw [HSL.out]; omega) (by decide)
  rw [List.nil_append, Nat.sub_zero, List.drop_zero, List.take_of_length_le (by rw [HSL.out]; omega), show ((0 : Nat) : Int) = 0 from rfl] at hsh
  have HSH := Lib.hid hsh
  clear h3 hsh
  go_wp2_with fail
  refine HSH.out.mono ?_
  rintro e w4 ⟨rfl, h4⟩
  have hdl := dblP_len s.data.toList
  rw [HSL.out] at hdl
  have hfl4 : (dblF s.data.toList).length ≤ 600 := by rw [dblF_len]; omega
  have hdp : (dblP s.data.toList).length ≤ 600 := by omega
  have HH4 := Lib.hid h4
  have HFL4 := Lib.hid hfl4
  have HDP := Lib.hid hdp
  clear h4 hfl4 hdl hdp
  go_wp2_with fail
  refine (btell ⟨#[114]⟩ HH4.out (by decide) (by have := HFL4.out; omega)).mono ?_
  rintro e w5 ⟨rfl, h5⟩
  rw [show (⟨#[114]⟩ : ByteArray).data.toList = [114] from rfl] at h5
  obtain ⟨FL, hFL⟩ : ∃ FL, FL = dblF s.data.toList ++ markP (toldP [114]) := ⟨_, rfl⟩
  rw [← hFL] at h5
  have hFLb : FL.map Prod.fst = dblP s.data.toList ++ toldP [114] := by rw [hFL, List.map_append, dblF_fst, markP_fst]
  have hFLl : FL.length ≤ 605 := by
    rw [hFL, List.length_append, markP_len]
    have := HFL4.out
    have h1 : (toldP [114]).length = 5 := by decide
    omega
  have HH5 := Lib.hid h5
  have HFLB := Lib.hid hFLb
  have HFLL := Lib.hid hFLl
  clear h5 hFL hFLb hFLl
  go_wp2_with fail
  refine (bemit_all (min num 100) HH5.out HMIN.out (by rw [HSL.out]; omega)).mono ?_
  rintro e w6 ⟨bg6, rfl, h6, -⟩
  obtain ⟨k, hk⟩ : ∃ k, k = (min num 100).toNat := ⟨_, rfl⟩
  rw [← hk] at h6 ⊢
  obtain ⟨snt, hsnt⟩ : ∃ snt, snt = str ((FL.take k).map Prod.fst) := ⟨_, rfl⟩
  rw [← hsnt]
  have hsz : snt.size ≤ 605 := by rw [hsnt, str_size, List.length_map, List.length_take]; have := HFLL.out; omega
  have HH6 := Lib.hid h6
  have HSNT := Lib.hid hsnt
  clear h6 hk hsnt
  go_wp2_with fail
  refine (bhold HH6.out (by rw [HSL.out]; omega)).mono ?_
  rintro e w7 ⟨rfl, h7⟩
  have HH7 := Lib.hid h7
  clear h7
  go_wp2_with fail
  go_loopw [12] (fun u12 wr => ∃ (i : Nat) (A : List UInt8), u12 = .int .i64 i ∧ i ≤ n ∧ A.length ≤ 300 + 300 * i ∧ Bench2 w wr p g b 300 d A 1048576 false bg6 (FL.drop k)) (fun u12 _ => n - (intOf u12).toNat)
  case atStart => exact ⟨0, _, rfl, Nat.zero_le _, by rw [HSL.out]; omega, HH7.out⟩
  case round =>
    obtain ⟨i, A, rfl, hin, hA, hH⟩ := hrel
    have HH := Lib.hid hH
    have HA := Lib.hid hA
    clear hH hA
    by_cases hlt : i < n
    · obtain ⟨t, ht⟩ : ∃ t, l[i]? = some t := ⟨l[i]'(by omega), List.getElem?_eq_getElem (by omega)⟩
      obtain ⟨b2, off, rfl, hb2, hc⟩ := hl1.2 (by omega)
      have hcell : wr.cell? ⟨b2, off + i, none⟩ = some (.string t) := by rw [(FIN.out _ HH.out.kk).cellq _ _ hb2]; exact SlAt.str hc i t ht
      clear hc
      by_cases hbt : 300 < t.size
      · go_wp2_with (go_at_call 10; refine (works32 _).mono ?_; rintro e w8 ⟨rfl, k8⟩)
        go_ret
        exact ⟨rfl, (FIN.out _ HH.out.kk).trans k8⟩
      · have hbt2 : t.size ≤ 300 := by omega
        clear hbt
        have hadd := badd2 t HH.out (by have := HA.out; omega)
        have HADD := Lib.hid hadd
        clear hadd
        go_wp2_with (go_at_call 11; go_must (refine HADD.out.mono ?_; rintro e w8 ⟨rfl, h8⟩; have HH8 := Lib.hid h8; clear h8))
        go_roundw
        case rel => exact ⟨i + 1, _, by go_num, by omega, by have := HA.out; rw [List.length_append]; simp; omega, HH8.out⟩
        case measure => simp [intOf]; omega
    · go_wp2_with fail
      refine (btell2 s HH.out (by omega) (by rw [List.length_drop]; have := HFLL.out; omega)).mono ?_
      rintro e w8 ⟨rfl, h8⟩
      obtain ⟨FL2, hFL2⟩ : ∃ FL2, FL2 = FL.drop k ++ markP (toldP s.data.toList) := ⟨_, rfl⟩
      rw [← hFL2] at h8
      have hl2 : FL2.length ≤ 1209 := by
        rw [hFL2, List.length_append, markP_len, toldP_len, List.length_drop]
        have := HFLL.out
        have := HDP.out
        omega
      obtain ⟨snt2, hsnt2⟩ : ∃ snt2, snt2 = str (FL2.map Prod.fst) := ⟨_, rfl⟩
      have hsz2 : snt2.size ≤ 1209 := by rw [hsnt2, str_size, List.length_map]; exact hl2
      have hem := bemit2 1048576 h8 (by decide) (by omega) rfl
      rw [← hsnt2] at hem
      obtain ⟨t1, ht1⟩ : ∃ t1, t1 = str (dblP s.data.toList) := ⟨_, rfl⟩
      obtain ⟨t2, ht2⟩ : ∃ t2, t2 = str (toldP [114]) := ⟨_, rfl⟩
      obtain ⟨t3, ht3⟩ : ∃ t3, t3 = str (toldP s.data.toList) := ⟨_, rfl⟩
      have hfin : snt ++ snt2 = t1 ++ t2 ++ t3 := by
        apply ba_ext
        rw [hsnt2, str_app, HSNT.out, str_list, hFL2, List.map_append, ← List.append_assoc, ← List.map_append, List.take_append_drop, HFLB.out, markP_fst, ht1, ht2, ht3, str_app, str_app, str_list]
      have s1 : t1.size ≤ 600 := by rw [ht1, str_size]; exact HDP.out
      have s2 : t2.size = 5 := by rw [ht2]; decide
      have s3 : t3.size ≤ 604 := by rw [ht3, str_size, toldP_len]; have := HDP.out; omega
      have c1 := fun w => rdata_any w s (by omega)
      have c2 := fun w => rtold_any w ⟨#[114]⟩ (by decide)
      have c3 := fun w => rtold_any w s (by omega)
      rw [← ht1] at c1
      rw [show (⟨#[114]⟩ : ByteArray).data.toList = [114] from rfl, ← ht2] at c2
      rw [← ht3] at c3
      have C1 := Lib.hid c1
      have C2 := Lib.hid c2
      have C3 := Lib.hid c3
      have HEM := Lib.hid hem
      clear c1 c2 c3 hem ht1 ht2 ht3 hsnt2 hl2 hFL2 h8
      go_wp2_with fail
      refine HEM.out.mono ?_
      rintro e w9 ⟨rfl, k9, h9⟩
      have HH9 := Lib.hid h9
      clear h9
      go_wp2_with fail
      refine (C1.out _).mono ?_
      rintro e w10 ⟨rfl, k10⟩
      go_wp2_with fail
      refine (C2.out _).mono ?_
      rintro e w11 ⟨rfl, k11⟩
      go_wp2_with fail
      refine (C3.out _).mono ?_
      rintro e w12 ⟨rfl, k12⟩
      have K12 : Keeps (fun _ => False) w9 w12 := (k10.trans k11).trans k12
      have HK12 := Lib.hid K12
      have HK9 := Lib.hid k9
      clear k9 k10 k11 k12 K12
      go_wp2_with (first
        | (go_at_call 15; go_must (refine (HH9.out _ HK12.out).1.mono ?_; rintro e w13 ⟨rfl, n13, rfl⟩))
        | (go_at_call 22; go_must (refine (HH9.out _ (HK12.out.drewN _)).2.mono ?_; rintro e w14 ⟨rfl, n14, rfl⟩))
        | (go_at_call 10; refine (works32 _).mono ?_; rintro e w15 ⟨rfl, k15⟩))
      go_ret
      exact ⟨rfl, ((FIN.out _ HK9.out).trans (HK12.out.drewN _)).trans k15⟩
end Go.Proofs.Ytcblaeleaebinaa
