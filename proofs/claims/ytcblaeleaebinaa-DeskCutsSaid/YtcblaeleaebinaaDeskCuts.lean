/-
  DeskCuts returns true, whatever its arguments: the walk.
-/
import Derived.Test.YtcblaeleaebinaaCuts
import Derived.Deep.DeepCutAuto
import Derived.Deep.CutBlock
namespace Go.Proofs.Ytcblaeleaebinaa
open Go.RowKit

set_option maxRecDepth 100000 in
set_option maxHeartbeats 4000000 in
theorem deskCuts_walk (w : World) (a : Option Addr) (n cap : Nat) (l : List Op32) (last : ByteArray) (hl : SlAt opR32 3 w a n l ∧ ∀ x ∈ l, x.good) (_hlast : last.size ≤ maxLen) :
    Calls Try.prog 5 #[.slice a n cap, .string last] w fun e w' => e = .returned (.bool true) ∧ Keeps (fun _ => False) w w' := by
  obtain ⟨hl, hl2⟩ := hl
  have hln := hl.1
  have fin : ∀ w' : World, Keeps (fun i => w.heap.size ≤ i) w w' → Keeps (fun _ => False) w w' := fun w' k => k.mono fun i hi e => by omega
  have FIN := Lib.hid fin
  have HL2 := Lib.hid hl2
  clear fin hl2
  by_cases hbn : 40 < n
  · go_enter Try.func5, Try.ntmps5
    go_wp2_with (go_at_call 10; refine (works32 _).mono ?_; rintro e w3 ⟨rfl, k3⟩)
    go_ret
    exact ⟨rfl, k3⟩
  by_cases hbl : 100 < last.size
  · go_enter Try.func5, Try.ntmps5
    go_wp2_with (go_at_call 10; refine (works32 _).mono ?_; rintro e w3 ⟨rfl, k3⟩)
    go_ret
    exact ⟨rfl, k3⟩
  go_enter Try.func5, Try.ntmps5
  go_wp2_with fail
  refine (dnew_ok w (E1 0 0 0 []) 1048576 (by decide) (by decide)).mono ?_
  rintro e w1 ⟨rfl, k1, hd1⟩
  obtain ⟨d, hd⟩ : ∃ d, d = w.heap.size := ⟨_, rfl⟩
  rw [← hd] at hd1 ⊢
  have HD := Lib.hid hd
  clear hd
  go_wp2_with fail
  refine (pnew_ok w1 8000 (by decide) (by decide)).mono ?_
  rintro e w2 ⟨p, g, b, rfl, l1, l2, l3, k2, hp⟩
  have hsz1 := k1.size
  have hdl := hd1.top.lt
  have HK := Lib.hid (k1.trans k2)
  have HD1 := Lib.hid (hd1.keeps k2 (fun _ _ => id))
  have HPA := Lib.hid hp
  have HLP := Lib.hid (show w1.heap.size ≤ p ∧ w1.heap.size ≤ g ∧ w1.heap.size ≤ b from ⟨l1, l2, l3⟩)
  have hn40 : n ≤ 40 := by omega
  have hl100 : last.size ≤ 100 := by omega
  clear k1 k2 hd1 hp l1 l2 l3 hbn hbl
  go_wp2_with fail
  go_loopw [9, 10, 11, 12] (fun u9 u10 u11 u12 wr => ∃ (i : Nat) (all snt : ByteArray) (F : Nat → Prop) (its : List It) (k : Nat) (bg : List UInt8) (told : List ByteArray), i ≤ n ∧ u12 = .int .i64 i ∧ u9 = .string all ∧ u10 = .string snt ∧ Hid (all.size ≤ 100 * i ∧ (flI its).length ≤ 204 * i ∧ told.length ≤ i ∧ Cuts w wr p g b d F all snt its k bg u11 told)) (fun _ _ _ u12 _ => n - (intOf u12).toNat)
  case atStart =>
    refine ⟨0, ⟨#[]⟩, ⟨#[]⟩, (fun i => i = d), [], 0, [], [], by omega, rfl, rfl, rfl, Lib.hid ⟨by decide, by decide, by decide, ?_⟩⟩
    have hpl := HPA.out.lt
    have hlp := HLP.out
    have hdd := HD.out
    exact {
      bench := {
        kk := HK.out.none_
        past := HPA.out
        lo := by omega
        lim := Nat.zero_le _
        nF := by omega
        F0 := fun i hi => by omega
        desk := ⟨[], _, HD1.out.anyE' _, rfl, fun x p' f t hq => by cases hq⟩ }
      sent := ⟨Nat.le_refl _, fun c h => absurd h (by omega), fun _ => rfl⟩
      snt_ := rfl
      cons := rfl
      reps := rfl
      row := OwnQ.none_
      rowF := fun r hr => by rw [rowB_zero] at hr; cases hr
      short := fun s hs => by cases hs }
  case round =>
    obtain ⟨i, all, snt, F, its, k, bg, told, hin, rfl, rfl, rfl, HH⟩ := hrel
    by_cases hlt : i < n
    · obtain ⟨x, hx⟩ : ∃ x, l[i]? = some x := ⟨l[i]'(by omega), List.getElem?_eq_getElem (by omega)⟩
      have hgood := HL2.out x (List.mem_of_getElem? hx)
      obtain ⟨b2, off, rfl, hb2, hc⟩ := hl.2 (by omega)
      have hcq := (FIN.out _ HH.out.2.2.2.bench.kk).cellq
      have hcell0 : wr.cell? ⟨b2, off + i * 3, none⟩ = some (.int .u8 x.kind) := by rw [hcq _ _ hb2]; exact hc i x 0 _ hx rfl
      have hcell1 : wr.cell? ⟨b2, off + i * 3 + 1, none⟩ = some (.string x.s) := by rw [hcq _ _ hb2]; exact hc i x 1 _ hx rfl
      have hcell2 : wr.cell? ⟨b2, off + i * 3 + 2, none⟩ = some (.int .i64 x.n) := by rw [hcq _ _ hb2]; exact hc i x 2 _ hx rfl
      have HGOOD := Lib.hid hgood
      clear hc hcq hgood
      by_cases hbs : 100 < x.s.size
      · go_wp2_with fail
        go_roundw
        case rel => exact ⟨i + 1, all, snt, F, its, k, bg, told, by omega, by go_num, rfl, rfl, Lib.hid ⟨by have := HH.out.1; omega, by have := HH.out.2.1; omega, by have := HH.out.2.2.1; omega, HH.out.2.2.2.same ((Keeps.refl _ _).alloc _)⟩⟩
        case measure => simp [intOf]; omega
      · have hbs2 : x.s.size ≤ 100 := by omega
        clear hbs
        go_upto_block 2 with (fail)
        obtain ⟨wo, hwo⟩ : ∃ wo, wo = wr.alloc (.cells #[.int .u8 x.kind, .string x.s, .int .i64 x.n] 40) := ⟨_, rfl⟩
        rw [← hwo]
        obtain ⟨ob, hob⟩ : ∃ ob, ob = wr.heap.size := ⟨_, rfl⟩
        rw [← hob]
        have hOB : Blk wo ob 40 #[.int .u8 x.kind, .string x.s, .int .i64 x.n] := by rw [hwo]; exact blk_new hob
        have kwo : Keeps (fun _ => False) wr wo := by rw [hwo]; exact (Keeps.refl _ _).alloc _
        obtain ⟨F1, hF1⟩ : ∃ F1 : Nat → Prop, F1 = fun i => F i ∧ i < wr.heap.size := ⟨_, rfl⟩
        have h0 : Cuts w wo p g b d F1 all snt its k bg u11 told := by rw [hF1]; exact HH.out.2.2.2.below.same kwo
        have hobS : ¬ (F1 ob ∨ ob = p ∨ ob = g ∨ ob = b) := by
          have hpl := HH.out.2.2.2.bench.past.lt
          intro e
          rcases e with e | e | e | e
          · rw [hF1] at e
            have : F ob ∧ ob < wr.heap.size := e
            omega
          · omega
          · omega
          · omega
        have OB := Lib.hid hOB
        have H0 := Lib.hid h0
        have HOBS := Lib.hid hobS
        have HSZ := Lib.hid (show all.size ≤ 100 * i ∧ (flI its).length ≤ 204 * i ∧ told.length ≤ i from ⟨HH.out.1, HH.out.2.1, HH.out.2.2.1⟩)
        have hk := h0.sent.le
        have hallb : all.size ≤ 4000 := by have := HSZ.out; omega
        have hAFb : (flI its).length ≤ 8160 := by have := HSZ.out; omega
        have htb : told.length ≤ 40 := by have := HSZ.out; omega
        have hsb : snt.size ≤ 8160 := by
          have h1 := congrArg List.length h0.snt_
          simp at h1
          omega
        have hAl : all.data.toList.length = all.size := by simp
        have HAL := Lib.hid hAl
        have o0 := hOB.cell 0
        have o1 := hOB.cell 1
        have o2 := hOB.cell 2
        simp at o0 o1 o2
        have lo := hOB.lt
        have HHK := Lib.hid (show k ≤ (flI its).length from hk)
        clear hwo hob hOB kwo hF1 h0 hobS hAl hcell0 hcell1 hcell2 hk
        rcases (show x.kind % 4 = 0 ∨ x.kind % 4 = 1 ∨ x.kind % 4 = 2 ∨ x.kind % 4 = 3 from by omega) with h7 | h7 | h7 | h7
        · as_aux_lemma =>
          have e0 : ((x.kind : Int) % 4 == 0) = true := by rw [beq_iff_eq]; omega
          clear h7
          obtain ⟨all2, hall⟩ : ∃ all2, all ++ x.s = all2 := ⟨_, rfl⟩
          have hsz2 : all2.size = all.size + x.s.size := by rw [← hall]; simp
          have hdat : all2.data.toList = all.data.toList ++ x.s.data.toList := by rw [← hall]; simp
          have hSl : x.s.data.toList.length = x.s.size := by simp
          have hseg : (all2.data.toList.drop all.size).take (all.size + x.s.size - all.size) = x.s.data.toList := by
            rw [hdat, ← HAL.out, List.drop_left, List.take_of_length_le (by have := HAL.out; omega)]
          have hA2 : all2.data.toList.length = all.size + x.s.size := by simp [hsz2]
          have hdl : (dblF x.s.data.toList).length ≤ 200 := by rw [dblF_len]; have := dblP_len x.s.data.toList; omega
          have hadd := baddF x.s H0.out.bench (by rw [HAL.out]; omega)
          rw [← hdat] at hadd
          have HADD := Lib.hid hadd
          have HSEG := Lib.hid hseg
          have HA2 := Lib.hid hA2
          have HSZ2 := Lib.hid hsz2
          have HDL := Lib.hid hdl
          have HDAT := Lib.hid hdat
          have hwa : IntKind.i64.wrap ((all.size : Int) + (x.s.size : Int)) = (all.size : Int) + x.s.size := wrap_in (by omega) (by omega)
          clear hadd hseg hA2 hSl hdat hsz2 hdl
          go_wp2_with fail
          refine HADD.out.mono ?_
          rintro e w3 ⟨rfl, k3, h3⟩
          have KK3 : Keeps (fun i => F1 i ∨ i = p ∨ i = g ∨ i = b) wo w3 := k3.mono fun i _ e => .inr e
          have o1 := (OB.out.keeps (KK3) HOBS.out).cell 1; have o2 := (OB.out.keeps (KK3) HOBS.out).cell 2; simp at o1 o2
          have hsh := bshowF all.size (all.size + x.s.size) h3 (by omega) (by rw [HA2.out]; omega) (by rw [List.length_drop]; omega)
          rw [HSEG.out, Int.natCast_add] at hsh
          have HSH := Lib.hid hsh
          clear hsh
          go_wp2_with fail
          refine HSH.out.mono ?_
          rintro e w4 ⟨rfl, k4, h4⟩
          have KK4 : Keeps (fun i => F1 i ∨ i = p ∨ i = g ∨ i = b) wo w4 := KK3.trans (k4.mono fun i _ e => .inl e)
          have o1 := (OB.out.keeps (KK4) HOBS.out).cell 1; have o2 := (OB.out.keeps (KK4) HOBS.out).cell 2; simp at o1 o2
          go_wp2_with fail
          go_roundw
          case rel => exact ⟨i + 1, all2, snt, _, its ++ [.con x.s.data.toList], k, bg, told, by omega, by go_num, rfl, rfl, Lib.hid ⟨by have := HSZ2.out; have := HSZ.out; omega, by rw [flI_app, List.length_append]; have := HDL.out; have := HSZ.out; have e0 : (flI [It.con x.s.data.toList]).length = (dblF x.s.data.toList).length := (by simp [flI, It.fl]); omega, by have := HSZ.out; omega, H0.out.shown x.s KK4 (fun i hi => hi.imp id fun h => Nat.le_trans KK3.size h) HDAT.out h4⟩⟩
          case measure => simp [intOf]; omega
        · as_aux_lemma =>
          have e0 : ((x.kind : Int) % 4 == 0) = false := by rw [beq_eq_false_iff_ne]; omega
          have e1 : ((x.kind : Int) % 4 == 1) = true := by rw [beq_iff_eq]; omega
          clear h7
          obtain ⟨all2, hall⟩ : ∃ all2, all ++ x.s = all2 := ⟨_, rfl⟩
          have hsz2 : all2.size = all.size + x.s.size := by rw [← hall]; simp
          have hdat : all2.data.toList = all.data.toList ++ x.s.data.toList := by rw [← hall]; simp
          have hSl : x.s.data.toList.length = x.s.size := by simp
          have hseg : (all2.data.toList.drop all.size).take (all.size + x.s.size - all.size) = x.s.data.toList := by
            rw [hdat, ← HAL.out, List.drop_left, List.take_of_length_le (by have := HAL.out; omega)]
          have hA2 : all2.data.toList.length = all.size + x.s.size := by simp [hsz2]
          have hdl : (dblF x.s.data.toList).length ≤ 200 := by rw [dblF_len]; have := dblP_len x.s.data.toList; omega
          have hadd := baddF x.s H0.out.bench (by rw [HAL.out]; omega)
          rw [← hdat] at hadd
          have HADD := Lib.hid hadd
          have HSEG := Lib.hid hseg
          have HA2 := Lib.hid hA2
          have HSZ2 := Lib.hid hsz2
          have HDL := Lib.hid hdl
          have HDAT := Lib.hid hdat
          have hwa : IntKind.i64.wrap ((all.size : Int) + (x.s.size : Int)) = (all.size : Int) + x.s.size := wrap_in (by omega) (by omega)
          clear hadd hseg hA2 hSl hdat hsz2 hdl
          go_wp2_with fail
          refine HADD.out.mono ?_
          rintro e w3 ⟨rfl, k3, h3⟩
          have KK3 : Keeps (fun i => F1 i ∨ i = p ∨ i = g ∨ i = b) wo w3 := k3.mono fun i _ e => .inr e
          have o1 := (OB.out.keeps (KK3) HOBS.out).cell 1; have o2 := (OB.out.keeps (KK3) HOBS.out).cell 2; simp at o1 o2
          have hsh := bshowF all.size (all.size + x.s.size) h3 (by omega) (by rw [HA2.out]; omega) (by rw [List.length_drop]; omega)
          rw [HSEG.out, Int.natCast_add] at hsh
          have HSH := Lib.hid hsh
          clear hsh
          go_wp2_with fail
          refine HSH.out.mono ?_
          rintro e w4 ⟨rfl, k4, h4⟩
          have KK4 : Keeps (fun i => F1 i ∨ i = p ∨ i = g ∨ i = b) wo w4 := KK3.trans (k4.mono fun i _ e => .inl e)
          have o1 := (OB.out.keeps (KK4) HOBS.out).cell 1; have o2 := (OB.out.keeps (KK4) HOBS.out).cell 2; simp at o1 o2
          go_wp2_with fail
          go_roundw
          case rel => exact ⟨i + 1, all2, snt, _, its ++ [.con x.s.data.toList], k, bg, told, by omega, by go_num, rfl, rfl, Lib.hid ⟨by have := HSZ2.out; have := HSZ.out; omega, by rw [flI_app, List.length_append]; have := HDL.out; have := HSZ.out; have e0 : (flI [It.con x.s.data.toList]).length = (dblF x.s.data.toList).length := (by simp [flI, It.fl]); omega, by have := HSZ.out; omega, H0.out.shown x.s KK4 (fun i hi => hi.imp id fun h => Nat.le_trans KK3.size h) HDAT.out h4⟩⟩
          case measure => simp [intOf]; omega
        · as_aux_lemma =>
          have e0 : ((x.kind : Int) % 4 == 0) = false := by rw [beq_eq_false_iff_ne]; omega
          have e1 : ((x.kind : Int) % 4 == 1) = false := by rw [beq_eq_false_iff_ne]; omega
          have e2 : ((x.kind : Int) % 4 == 2) = true := by rw [beq_iff_eq]; omega
          clear h7
          have hdl : (markP (toldP x.s.data.toList)).length ≤ 204 := by
            rw [markP_len, toldP_len]
            have := dblP_len x.s.data.toList
            have hSl : x.s.data.toList.length = x.s.size := by simp
            omega
          have HDL := Lib.hid hdl
          clear hdl
          obtain ⟨a7, n7, c7, hu11⟩ := H0.out.row.sl3
          subst hu11
          have hvl : (told.map Value.string).length ≤ 17179869184 := by rw [List.length_map]; omega
          have HVL := Lib.hid hvl
          clear hvl
          go_wp2_with (first
            | (go_at_call 19; go_must (refine (btellF x.s H0.out.bench (by omega) (by rw [List.length_drop]; omega)).mono ?_; rintro e w3 ⟨rfl, k3, h3⟩; have KK3 : Keeps (fun i => F1 i ∨ i = p ∨ i = g ∨ i = b) wo w3 := k3.mono fun i _ e => .inl e; have o1 := (OB.out.keeps (KK3) HOBS.out).cell 1; have o2 := (OB.out.keeps (KK3) HOBS.out).cell 2; simp at o1 o2; have hro := H0.out.rowk KK3; have HRO := Lib.hid hro; clear hro))
            | (with_reducible show wpList _ _ _ (⟨some 98, _, _, _, _, _⟩ :: _) _ _; go_must (refine wpList_append_q rfl _ _ _ rfl 9 (.string ⟨#[]⟩) 16 Try.underlying22 (by kernel_rfl) rfl (by omega) (.slice a7 n7 c7) (told.map Value.string) rfl (HRO.out.keeps (S := fun _ => False) ((Keeps.refl _ _).alloc _) (fun _ _ _ => id)) _ _ (.string x.s) rfl (cell_new (by simp)) rfl HVL.out ?_; intro v8 w8 O8 k8 hv8; have HO8 := Lib.hid O8; have HK8 := Lib.hid k8; have HV8 := Lib.hid hv8; clear O8 k8 hv8)))
          go_roundw
          case rel => exact ⟨i + 1, all, snt, _, its ++ [.rep x.s.data.toList], k, bg, told ++ [x.s], by omega, by go_num, rfl, rfl, Lib.hid ⟨by have := HSZ.out; omega, by rw [flI_app, List.length_append]; have := HDL.out; have := HSZ.out; have e0 : (flI [It.rep x.s.data.toList]).length = (markP (toldP x.s.data.toList)).length := (by simp [flI, It.fl]); omega, by have := HSZ.out; simp; omega, H0.out.told_ x.s hbs2 ((Keeps.refl _ _).alloc _) h3 HK8.out HO8.out HV8.out⟩⟩
          case measure => simp [intOf]; omega
        · as_aux_lemma =>
          have e0 : ((x.kind : Int) % 4 == 0) = false := by rw [beq_eq_false_iff_ne]; omega
          have e1 : ((x.kind : Int) % 4 == 1) = false := by rw [beq_eq_false_iff_ne]; omega
          have e2 : ((x.kind : Int) % 4 == 2) = false := by rw [beq_eq_false_iff_ne]; omega
          clear h7
          have hn1 : -9223372036854775808 ≤ x.n.tmod 40 ∧ x.n.tmod 40 ≤ 9223372036854775807 := by
            have t1 := Int.tmod_lt_of_pos x.n (show (0 : Int) < 40 by decide)
            have t2 := Int.lt_tmod_of_pos x.n (show (0 : Int) < 40 by decide)
            omega
          have HN := Lib.hid hn1
          clear hn1
          go_wp2_with fail
          refine (bemitF (x.n.tmod 40) H0.out.bench HN.out).mono ?_
          rintro e w3 ⟨bg3, rfl, k3, h3, hs3⟩
          obtain ⟨y, hy⟩ : ∃ y, y = str ((((flI its).drop k).take (x.n.tmod 40).toNat).map Prod.fst) := ⟨_, rfl⟩
          rw [← hy]
          obtain ⟨snt2, hsnt⟩ : ∃ snt2, snt ++ y = snt2 := ⟨_, rfl⟩
          have hys : y.size ≤ 8160 := by rw [hy, str_size, List.length_map, List.length_take, List.length_drop]; omega
          have HY := Lib.hid hy
          have HS3 := Lib.hid hs3
          clear hy hs3
          go_wp2_with fail
          go_roundw
          case rel => exact ⟨i + 1, all, snt2, F1, its, _, bg3, told, by omega, by go_num, rfl, rfl, Lib.hid ⟨by have := HSZ.out; omega, by have := HSZ.out; omega, by have := HSZ.out; omega, H0.out.emitted _ k3 hsnt HY.out h3 HS3.out⟩⟩
          case measure => simp [intOf]; omega
    · as_aux_lemma =>
      have hC := HH.out.2.2.2
      have hsz : all.size ≤ 4000 ∧ (flI its).length ≤ 8160 ∧ told.length ≤ 40 := by have := HH.out; omega
      have hsb : snt.size ≤ 8160 := by
        have h1 := congrArg List.length hC.snt_
        simp at h1
        omega
      obtain ⟨a7, n7, c7, hu11⟩ := hC.row.sl3
      subst hu11
      have HC := Lib.hid hC
      clear hC HH
      go_wp2_with fail
      refine (bcutF HC.out.bench).mono ?_
      rintro e w3 ⟨rfl, k3, h3, rest, hrest⟩
      obtain ⟨G, P0, hPP⟩ := HC.out.parts hrest last.data.toList
      have hbg : (markP bg).length ≤ 204 := by rw [markP_len]; exact bg_short HC.out.short hrest
      obtain ⟨W, hW⟩ : ∃ W, W = (markP bg).length := ⟨_, rfl⟩
      have hwt := bwaitsF h3
      rw [← hW] at hwt hbg
      have hlast : (toldP last.data.toList).length ≤ 204 := by
        rw [toldP_len]
        have := dblP_len last.data.toList
        have hll : last.data.toList.length = last.size := by simp
        omega
      obtain ⟨FL2, hFL2⟩ : ∃ FL2, FL2 = markP bg ++ markP (toldP last.data.toList) := ⟨_, rfl⟩
      have hFl : FL2.length ≤ 408 := by rw [hFL2, List.length_append, ← hW, markP_len]; omega
      have hro3 := HC.out.rowk (k3.mono fun i _ e => .inl e)
      have HRO3 := Lib.hid hro3
      have HH3 := Lib.hid h3
      have HWT := Lib.hid hwt
      have HP := Lib.hid hPP
      have HFL2 := Lib.hid hFL2
      have HFLL := Lib.hid hFl
      have HWW := Lib.hid hW
      clear hrest hPP hwt hFL2 h3 hro3 hlast hW hFl
      go_wp2_with fail
      refine HWT.out.mono ?_
      rintro e w4 ⟨rfl, n4, rfl⟩
      go_wp2_with fail
      refine (btellF last (HH3.out.same ((Keeps.refl (fun _ => False) w3).drewN n4)) (by omega) (by rw [← HWW.out]; omega)).mono ?_
      rintro e w5 ⟨rfl, k5, h5⟩
      rw [← HFL2.out] at h5
      have hro5 : OwnQ w5 9 (.slice a7 n7 c7) (told.map Value.string) := (HRO3.out.keeps ((Keeps.refl (fun _ => False) w3).drewN n4) (fun _ _ _ => id)).keeps k5 (fun r hr _ e => (HC.out.rowF r hr).1 e)
      have hrl := HC.out.rowlt
      have hs3 := k3.size
      have HRO5 := Lib.hid hro5
      have HH5 := Lib.hid h5
      have HRL := Lib.hid hrl
      clear h5 hro5 hrl
      go_wp2_with fail
      refine (bemitF 1048576 HH5.out (by decide)).mono ?_
      rintro e w6 ⟨bg6, rfl, k6, h6, -⟩
      rw [List.take_of_length_le (by have := HFLL.out; show FL2.length ≤ 1048576; omega)]
      have hro6 : OwnQ w6 9 (.slice a7 n7 c7) (told.map Value.string) := HRO5.out.keeps k6 (fun r hr _ e => by
        have h1 := HRL.out r hr
        have h2 := (HC.out.rowF r hr).1
        exact e.elim h2 (fun h3 => by simp at h3; omega))
      have hk6 := h6.kk
      obtain ⟨y, hy⟩ : ∃ y, y = str (FL2.map Prod.fst) := ⟨_, rfl⟩
      rw [← hy]
      have hyz : y.size ≤ 408 := by rw [hy, str_size, List.length_map]; exact HFLL.out
      obtain ⟨tot, htot⟩ : ∃ tot, snt ++ y = tot := ⟨_, rfl⟩
      have htd : tot = str (gB G []) := by
        have h1 := HP.out.bytes
        rw [← HFL2.out] at h1
        rw [← h1, ← htot, hy]
        apply ba_ext
        rw [str_app, str_list]
      have htz : (gB G []).length ≤ 1073741824 := by
        have h1 : tot.size = (gB G []).length := by rw [htd]; rfl
        rw [← h1, ← htot]; simp; omega
      have hsp := split_any w6 G [] htz
      rw [← htd, HP.out.parts] at hsp
      obtain ⟨P, hP⟩ : ∃ P, P = P0 ++ [(last.data.toList, true)] := ⟨_, rfl⟩
      rw [← hP] at hsp
      have hPn : P.length ≤ 2147483648 := by
        have h1 := outG_len G
        have h2 := gB_len G []
        have h3 := congrArg List.length HP.out.parts
        rw [← hP] at h3
        simp [conP] at h3
        omega
      have hP0 : 0 < P.length := by rw [hP]; simp
      have HSP := Lib.hid hsp
      have HRO6 := Lib.hid hro6
      have HK6 := Lib.hid (FIN.out _ hk6)
      have HPE := Lib.hid hP
      clear hsp hro6 hk6 htd htz hy h6 hP
      go_wp2_with fail
      refine HSP.out.mono ?_
      rintro e w7 ⟨v, rfl, hO, k7⟩
      obtain ⟨a8, c8, rfl, -, -, hne, hcl⟩ := hO.shape partR_len
      obtain ⟨g8, rfl, -, hg8, -⟩ := hne hP0
      have hcell : ∀ (j : Nat) (x : List UInt8 × Bool), P[j]? = some x → ∀ w', Keeps (fun _ => False) w7 w' → w'.cell? ⟨g8, j * 2, none⟩ = some (.string (str x.1)) ∧ w'.cell? ⟨g8, j * 2 + 1, none⟩ = some (.bool x.2) := fun j x hx w' kk => by
        have h1 := (hcl g8 rfl j x 0 _ hx rfl).1
        have h2 := (hcl g8 rfl j x 1 _ hx rfl).1
        exact ⟨by rw [kk.cellq _ _ hg8]; exact h1, by rw [kk.cellq _ _ hg8]; exact h2⟩
      have htold : ∀ (j : Nat) (s : ByteArray), told[j]? = some s → ∃ gq oq, (Value.slice a7 n7 c7 = .slice (some ⟨gq, oq, none⟩) n7 c7) ∧ n7 = told.length ∧ ∀ w', Keeps (fun _ => False) w7 w' → w'.cell? ⟨gq, oq + j, none⟩ = some (.string s) := fun j s hs => by
        have h1 := HRO6.out.keeps k7 (fun _ _ _ => id)
        obtain ⟨gq, oq, capq, hv, hc, -, hgl, -⟩ := h1.cell (j := j) (u := .string s) (by rw [List.getElem?_map, hs]; rfl)
        injection hv with hv1 hv2 hv3
        rw [List.length_map] at hv2
        refine ⟨gq, oq, by rw [hv1], hv2, fun w' kk => ?_⟩
        rw [kk.cellq _ _ hgl]
        exact hc
      have hn7 : n7 = told.length := by
        obtain ⟨x1, x2, hx⟩ := HRO6.out.sl
        injection hx with _ h2 _
        rw [List.length_map] at h2
        exact h2
      have HCELL := Lib.hid hcell
      have HTOLD := Lib.hid htold
      have HK7 := Lib.hid (HK6.out.trans k7)
      have HN7 := Lib.hid hn7
      clear hO hcl hne hcell htold k7 hn7
      have hn7b : n7 ≤ 40 := by have := HN7.out; omega
      go_wp2_with fail
      go_loopw [16, 17, 18] (fun u16 u17 u18 wr => ∃ j : Nat, u18 = .int .i64 j ∧ u16 = .string (str (consP (P.take j))) ∧ u17 = .int .i64 ((repP (P.take j)).length : Nat) ∧ Hid (j < P.length ∧ Keeps (fun _ => False) w7 wr)) (fun _ _ u18 _ => P.length - (intOf u18).toNat)
      case atStart => exact ⟨0, rfl, rfl, rfl, Lib.hid ⟨hP0, Keeps.refl _ _⟩⟩
      case round =>
        obtain ⟨j, rfl, rfl, rfl, HJ⟩ := hrel
        obtain ⟨x, hx⟩ : ∃ x, P[j]? = some x := ⟨_, List.getElem?_eq_getElem HJ.out.1⟩
        obtain ⟨p1, p2, p3, p4, p5, p6⟩ := HP.out.at HPE.out hx
        have hjl := HJ.out.1
        have hAl : all.data.toList.length = all.size := by simp
        rw [hAl] at p1 p2
        obtain ⟨S, hS⟩ : ∃ S, S = consP (P.take j) := ⟨_, rfl⟩
        obtain ⟨q, hq⟩ : ∃ q, q = (repP (P.take j)).length := ⟨_, rfl⟩
        rw [← hS] at p1 p3 p5 ⊢
        rw [← hq] at p4 p6 ⊢
        have hc := HCELL.out j x hx
        have hsS : (str S).size = S.length := rfl
        have hcx0 : ∀ w', Keeps (fun _ => False) wr w' → w'.cell? ⟨g8, j * 2, none⟩ = some (.string (str x.1)) := fun w' kk => (hc w' (HJ.out.2.trans kk)).1
        have hcx1 : wr.cell? ⟨g8, j * 2 + 1, none⟩ = some (.bool x.2) := (hc wr HJ.out.2).2
        have hcx : wr.cell? ⟨g8, j * 2, none⟩ = some (.string (str x.1)) := hcx0 wr (Keeps.refl _ _)
        have hqb : q ≤ 40 := by rw [List.length_map] at p4; omega
        have P2 := Lib.hid p2
        have P3 := Lib.hid p3
        have P4 := Lib.hid p4
        have P5 := Lib.hid p5
        have P6 := Lib.hid p6
        have HS := Lib.hid hS
        have HQ := Lib.hid hq
        have HX := Lib.hid hx
        have hwj : IntKind.i64.wrap ((P.length : Int) - 1) = ((P.length - 1 : Nat) : Int) := by rw [wrap_in (by omega) (by omega)]; omega
        clear p2 p3 p4 p5 p6 hS hq hx hc hAl
        cases hb2 : x.2 with
        | false =>
          rw [hb2] at hcx1
          obtain ⟨t1, t2, t3⟩ := P5.out hb2
          have hcat : str S ++ str x.1 = str (S ++ x.1) := str_cat1 _ _
          have hs1 : (str x.1).size = x.1.length := rfl
          have hs2 : (str (S ++ x.1)).size = S.length + x.1.length := by rw [str_size, List.length_append]
          have hs3 : S.length + x.1.length ≤ 4000 := by
            have := P2.out
            rw [t2, List.length_append] at this
            omega
          have T2 := Lib.hid t2
          have T3 := Lib.hid t3
          clear t2 t3 hb2
          go_wp2_with fail
          go_roundw
          case rel => exact ⟨j + 1, by go_num, by rw [T2.out], by rw [T3.out, ← HQ.out], Lib.hid ⟨t1, HJ.out.2⟩⟩
          case measure => simp [intOf]; omega
        | true =>
          rw [hb2] at hcx1
          rcases P6.out hb2 with ⟨t1, t2⟩ | ⟨t1, t2, t3, t4⟩
          · have hjj : ((j : Int) == ((P.length - 1 : Nat) : Int)) = true := by rw [beq_iff_eq]; omega
            have hxl : str x.1 = last := by rw [t2]; exact str_of last
            rw [hxl] at hcx
            have hpre : all.extract 0 S.length = str S := by
              have h1 := str_ext0 all.data.toList S.length
              rw [P3.out, str_of] at h1
              exact h1
            have hqt : (q : Int) ≤ (n7 : Int) := by
              have h1 := P4.out
              rw [List.length_map] at h1
              have := HN7.out
              omega
            have hjn : j = P.length - 1 := by omega
            have HJN := Lib.hid hjn
            clear t1 t2 hxl hb2 hjn hcx0
            go_wp2_with (go_at_call 10; refine (works32 _).mono ?_; rintro e w8 ⟨rfl, k8⟩)
            go_ret
            exact ⟨rfl, (HK7.out.trans HJ.out.2).trans k8⟩
          · have hjj : ((j : Int) == ((P.length - 1 : Nat) : Int)) = false := by rw [beq_eq_false_iff_ne]; omega
            have t2' : ∃ s0 : ByteArray, told[q]? = some s0 ∧ s0 = str x.1 := by
              rw [List.getElem?_map] at t2
              obtain ⟨s0, h1, h2⟩ := Option.map_eq_some_iff.1 t2
              exact ⟨s0, h1, by rw [← h2]; exact (str_of s0).symm⟩
            obtain ⟨s0, h1, h2⟩ := t2'
            rw [h2] at h1
            obtain ⟨gq, oq, hv, hv2, hct⟩ := HTOLD.out q _ h1
            injection hv with hv
            subst hv
            have hqn : q < told.length := (List.getElem?_eq_some_iff.1 h1).1
            have hqn2 : ¬ (n7 : Int) ≤ (q : Int) := by omega
            have hqn3 : (q : Int) < (n7 : Int) := by omega
            have hqd1 : decide ((n7 : Int) ≤ (q : Int)) = false := decide_eq_false hqn2
            have hqd2 : decide (n7 ≤ q) = false := decide_eq_false (by omega)
            have hqd3 : decide ((q : Int) < (n7 : Int)) = true := decide_eq_true hqn3
            have hct2 : wr.cell? ⟨gq, oq + q, none⟩ = some (.string (str x.1)) := hct wr HJ.out.2
            have T3 := Lib.hid t3
            have T4 := Lib.hid t4
            clear t2 t3 t4 h1 h2 hct hb2 hv2
            go_wp2_with fail
            go_quiet (fail)
            go_wp2
            go_roundw
            case rel => exact ⟨j + 1, by go_num, by rw [T3.out, ← HS.out], by rw [T4.out]; go_num, Lib.hid ⟨t1, HJ.out.2.drewN _⟩⟩
            case measure => simp [intOf]; omega
end Go.Proofs.Ytcblaeleaebinaa
