/-
  RestoreBegins: where a log begins anew is what the chapter says; what fails is told.
-/
import Derived.Test.YtdbnalocmjkncaaGreatDoorQWorks23
import Derived.Test.YtdbnalocmjkncaaGreatDoorQMade21B
import Derived.Test.YtdbnalocmjkncaaGreatDoorQTurnR
import Derived.Test.YtdbnalocmjkncaaGreatDoorQTorn
import Derived.Test.YtdbnalocmjkncaaGreatDoorQOps22
import Derived.Deep.DeepCutAuto
import Derived.Deep.CutBlock
namespace Go.Proofs.YtdbnalocmjkncaaGreatDoor
open Go.RowKit Go.Maps
attribute [local instance] noRes

set_option maxRecDepth 100000 in
set_option maxHeartbeats 4000000 in
theorem restoreBegins_any (w : World) (a : Option Addr) (n c : Nat) (l : List File21) (m : Int) (fail : Bool) (ai : Option Addr) (ni ci : Nat) (items : List Itm) (hl : SlAt fileR 3 w a n l ∧ ∀ x ∈ l, x.good) (hm : Lit.wf (.int .u8 m) = true) (hi : SlAt itmR 3 w ai ni items ∧ (∀ x ∈ items, x.good) ∧ ni ≤ maxLen) (he : Ety w) :
    Calls Tryz.prog 3 #[.slice a n c, .int .u8 m, .bool fail, .slice ai ni ci] w fun e w' => e = .returned (.bool true) ∧ Keeps (fun _ => False) w w' := by
  have hm : 0 ≤ m ∧ m ≤ 255 := by simpa [Lit.wf, IntKind.min, IntKind.max, IntKind.signed, IntKind.bits] using hm
  obtain ⟨m0, rfl⟩ := Int.eq_ofNat_of_zero_le hm.1
  have HW := Lib.hid (fun W (k : Keeps (fun _ => False) w W) => works23 W (ety_keeps he k (fun _ _ => id)))
  have HM := Lib.hid (made21_any w a n c l hl he)
  have HIT := Lib.hid hi.1
  have hni : ni ≤ 9223372036854775807 := by have := hi.2.2; unfold maxLen at this; omega
  obtain ⟨k, hkk⟩ : ∃ k, k = m0 % 16 + 1 := ⟨_, rfl⟩
  have hk1 : 1 ≤ k ∧ k ≤ 16 := by omega
  have hki : ((m0 : Nat) : Int) % 16 = (k : Int) - 1 := by omega
  have hhk := heldP_is hk1
  have HHK := Lib.hid hhk
  clear hl he hi hm hkk hhk
  go_enter Tryz.func3, Tryz.ntmps3
  go_wp2_with fail
  refine HM.out.mono ?_
  rintro e w1 ⟨s, M, L, v, rfl, S1, D1, -⟩
  obtain ⟨av, nv, cv, rfl⟩ := D1.slc
  have HS1 := Lib.hid S1
  have HD1 := Lib.hid D1
  clear S1 D1
  go_wp2_with fail
  obtain ⟨w2, hw2⟩ : ∃ w2, w2 = w1.alloc (.cells #[.slice av nv cv, .int .i64 10000, .int .i64 0] 27) := ⟨_, rfl⟩
  have k2 : Keeps (fun _ => False) w1 w2 := by rw [hw2]; exact (Keeps.refl _ _).alloc _
  have HB2 := Lib.hid (show Blk w2 w1.heap.size 27 #[.slice av nv cv, .int .i64 10000, .int .i64 0] by rw [hw2]; exact Blk.new _ _ _)
  rw [← hw2]
  have HS2 := Lib.hid (HS1.out.same k2)
  have HLEN := Lib.hid HS1.out.len
  have HD2 := Lib.hid (HD1.out.keeps k2)
  have hxlo := HS1.out.keeps.size
  obtain ⟨xb, hxb⟩ : ∃ xb, xb = w1.heap.size := ⟨_, rfl⟩
  rw [← hxb] at HB2 hxlo ⊢
  clear hw2 k2 hxb HS1 HD1 hki
  obtain ⟨RV, hRV⟩ : ∃ RV, RV = readV (L.map SRep.f) tLog := ⟨_, rfl⟩
  have hrd := sread_any HS2.out (nm := tLog) (by decide)
  rw [← hRV] at hrd
  have HRD := Lib.hid hrd
  unfold readV at hRV
  have HRV := Lib.hid hRV
  clear hrd hRV
  cases hg : getG SFile.name tLog (L.map SRep.f) with
  | none =>
    have hr := HRV.out
    rw [hg] at hr
    simp only at hr
    subst hr
    have HG := Lib.hid hg
    clear hg HRV
    cases fail with
    | true =>
      as_aux_lemma =>
      go_wp2_with fail
      refine HRD.out.mono ?_
      rintro e w3 ⟨rfl, hw⟩
      obtain rfl : w2 = w3 := hw.symm
      clear HRD
      go_wp2_with fail
      refine (sfail HS2.out 1 (by decide)).mono ?_
      rintro e w3 ⟨L3, rfl, S3, hl3, k3⟩
      have HS3 := Lib.hid (show Sto w w3 s M 10000 1 L3 64 from S3)
      have HD3 := Lib.hid (show DocL w3 (.slice av nv cv) (L3.map SRep.f) by rw [hl3]; exact Sto.doc HD2.out k3)
      have hb3 := HB2.out.other k3 (by decide) (by decide) (by decide)
      have HB3 := Lib.hid hb3
      have HL3 := Lib.hid hl3
      obtain ⟨⟨x0, x1, x2⟩, xf0, xf1, xf2⟩ := hb3.all3
      have hz3 := k3.size
      have hlo3 := hb3.lt
      clear S3 hl3 k3 hb3 HS2 HD2 HB2
      go_wp2_with fail
      obtain ⟨w4, hw4⟩ : ∃ w4, w4 = w3.setCell ⟨xb, 2, none⟩ (.int .i64 1) := ⟨_, rfl⟩
      have kx : Keeps (fun i => i = xb) w3 w4 := by rw [hw4]; exact (Keeps.refl (fun i => i = xb) w3).setCell (p := ⟨xb, 2, none⟩) (fun _ => rfl) _
      have HB4 := Lib.hid (show Blk w4 xb 27 #[.slice av nv cv, .int .i64 10000, .int .i64 1] by rw [hw4]; exact HB3.out.set_ 2 _)
      have HS4 := Lib.hid (HS3.out.beside kx (fun i e => by subst e; exact ⟨hxlo, _, _, HB3.out, by decide, by decide, by decide⟩))
      have HD4 := Lib.hid (show DocL w4 (.slice av nv cv) (L3.map SRep.f) from OwnS.keeps HD3.out kx (fun i _ _ ⟨cs, hb⟩ e => by subst e; exact hb.ne_ HB3.out (by decide) rfl))
      rw [← hw4]
      have HL4 := HL3
      clear hw4 kx x0 x1 x2 xf0 xf1 xf2 HS3 HD3 HB3
      have hbg := resbegin_any HS4.out (by decide) tLog (k : Int) (by decide)
      unfold beginP at hbg
      rw [HL4.out, HG.out] at hbg
      have HBG := Lib.hid hbg
      clear hbg
      refine HBG.out.mono ?_
      rintro e w5 ⟨v5, L5, rfl, E5, S5, -, k5⟩
      obtain rfl := E5.nil_
      have HS5 := Lib.hid S5
      clear E5 S5 k5
      go_wp2_with fail
      have hhe := rheld_any w5 (k : Int)
      rw [HHK.out] at hhe
      refine hhe.mono ?_
      clear hhe
      rintro e w6 ⟨rfl, hw⟩
      obtain rfl : w5 = w6 := hw.symm
      go_wp2_with fail
      refine (HW.out _ HS5.out.keeps).mono ?_
      rintro e w7 ⟨rfl, k7⟩
      have HK7 := Lib.hid (HS5.out.keeps.trans k7)
      clear k7
      go_wp2_with fail
      go_ret
      exact ⟨rfl, HK7.out⟩
    | false =>
      as_aux_lemma =>
      go_wp2_with fail
      refine HRD.out.mono ?_
      rintro e w3 ⟨rfl, hw⟩
      obtain rfl : w2 = w3 := hw.symm
      clear HRD
      have HS4 := HS2
      have HD4 := HD2
      have HB4 := HB2
      go_wp2_with fail
      have hbg := resbegin_any HS4.out (by decide) tLog (k : Int) (by decide)
      unfold beginP at hbg
      rw [HG.out] at hbg
      have HBG := Lib.hid hbg
      clear hbg
      refine HBG.out.mono ?_
      rintro e w5 ⟨v5, L5, rfl, E5, S5, -, k5⟩
      obtain rfl := E5.nil_
      have HS5 := Lib.hid S5
      clear E5 S5 k5
      go_wp2_with fail
      have hhe := rheld_any w5 (k : Int)
      rw [HHK.out] at hhe
      refine hhe.mono ?_
      clear hhe
      rintro e w6 ⟨rfl, hw⟩
      obtain rfl : w5 = w6 := hw.symm
      go_wp2_with fail
      refine (HW.out _ HS5.out.keeps).mono ?_
      rintro e w7 ⟨rfl, k7⟩
      have HK7 := Lib.hid (HS5.out.keeps.trans k7)
      clear k7
      go_wp2_with fail
      go_ret
      exact ⟨rfl, HK7.out⟩
  | some f =>
    have hr := HRV.out
    rw [hg] at hr
    simp only at hr
    subst hr
    have HG := Lib.hid hg
    clear hg HRV
    cases fail with
    | true =>
      as_aux_lemma =>
      go_wp2_with fail
      refine HRD.out.mono ?_
      rintro e w3 ⟨rfl, hw⟩
      obtain rfl : w2 = w3 := hw.symm
      clear HRD
      go_wp2_with fail
      refine (sfail HS2.out 1 (by decide)).mono ?_
      rintro e w3 ⟨L3, rfl, S3, hl3, k3⟩
      have HS3 := Lib.hid (show Sto w w3 s M 10000 1 L3 64 from S3)
      have HD3 := Lib.hid (show DocL w3 (.slice av nv cv) (L3.map SRep.f) by rw [hl3]; exact Sto.doc HD2.out k3)
      have hb3 := HB2.out.other k3 (by decide) (by decide) (by decide)
      have HB3 := Lib.hid hb3
      have HL3 := Lib.hid hl3
      obtain ⟨⟨x0, x1, x2⟩, xf0, xf1, xf2⟩ := hb3.all3
      have hz3 := k3.size
      have hlo3 := hb3.lt
      clear S3 hl3 k3 hb3 HS2 HD2 HB2
      go_wp2_with fail
      obtain ⟨w4, hw4⟩ : ∃ w4, w4 = w3.setCell ⟨xb, 2, none⟩ (.int .i64 1) := ⟨_, rfl⟩
      have kx : Keeps (fun i => i = xb) w3 w4 := by rw [hw4]; exact (Keeps.refl (fun i => i = xb) w3).setCell (p := ⟨xb, 2, none⟩) (fun _ => rfl) _
      have HB4 := Lib.hid (show Blk w4 xb 27 #[.slice av nv cv, .int .i64 10000, .int .i64 1] by rw [hw4]; exact HB3.out.set_ 2 _)
      have HS4 := Lib.hid (HS3.out.beside kx (fun i e => by subst e; exact ⟨hxlo, _, _, HB3.out, by decide, by decide, by decide⟩))
      have HD4 := Lib.hid (show DocL w4 (.slice av nv cv) (L3.map SRep.f) from OwnS.keeps HD3.out kx (fun i _ _ ⟨cs, hb⟩ e => by subst e; exact hb.ne_ HB3.out (by decide) rfl))
      rw [← hw4]
      have HL4 := HL3
      clear hw4 kx x0 x1 x2 xf0 xf1 xf2 HS3 HD3 HB3
      have hbg := resbegin_any HS4.out (by decide) tLog (k : Int) (by decide)
      unfold beginP at hbg
      rw [HL4.out, HG.out, HHK.out] at hbg
      have htn := fun W v' (h : DocL W v' (L.map SRep.f)) hl => rturn_any W v' 10000 1 (L.map SRep.f) tLog (k : Int) h hl (by decide) (by decide)
      rw [HHK.out] at htn
      obtain ⟨R, hR⟩ : ∃ R, R = turnP tLog (k - 1) 1 (L.map SRep.f) := ⟨_, rfl⟩
      simp only at hbg
      rw [← hR] at hbg htn
      have HBG := Lib.hid hbg
      have HTN := Lib.hid htn
      clear hbg htn hR
      refine HBG.out.mono ?_
      rintro e w5 ⟨v5, L5, rfl, E5, S5, hl5, k5⟩
      have HE5 := Lib.hid E5
      have HS5 := Lib.hid S5
      have HL5 := Lib.hid hl5
      have HD5 := Lib.hid (show DocL w5 (.slice av nv cv) (L.map SRep.f) by have := HD4.out; rw [HL4.out] at this; exact Sto.doc this k5)
      have hb5 := HB4.out.other k5 (by decide) (by decide) (by decide)
      obtain ⟨x0, x1, x2⟩ := hb5.cells3
      clear E5 S5 hl5 k5 hb5 HS4 HD4 HB4 HBG
      have hll := HS5.out.len
      have hlen0 : (L.map SRep.f).length ≤ 1048576 := by have := (show L.length ≤ 64 from HLEN.out); rw [List.length_map]; omega
      go_wp2_with fail
      have htn := HTN.out w5 _ HD5.out hlen0
      unfold DocAfter docS at htn
      refine htn.mono ?_
      clear htn
      rintro e w6 ⟨v6, rfl, D6, k6⟩
      obtain ⟨a6, n6, c6, rfl⟩ := D6.slc
      have HD6 := Lib.hid D6
      have HS6 := Lib.hid (HS5.out.same k6)
      have HE6 := Lib.hid (HE5.out.keeps0 k6)
      clear D6 k6 x0 x1 x2 HS5 HE5 HD5 HTN
      go_wp2_with fail
      obtain ⟨w7, hw7⟩ : ∃ w7, w7 = w6.alloc (.cells #[.slice a6 n6 c6, .int .i64 10000, .int .i64 (R.2.1 : Nat)] 27) := ⟨_, rfl⟩
      have k7 : Keeps (fun _ => False) w6 w7 := by rw [hw7]; exact (Keeps.refl _ _).alloc _
      have HB7 := Lib.hid (show Blk w7 w6.heap.size 27 #[.slice a6 n6 c6, .int .i64 10000, .int .i64 (R.2.1 : Nat)] by rw [hw7]; exact Blk.new _ _ _)
      rw [← hw7]
      have HD7 := Lib.hid (HD6.out.keeps k7)
      have HS7 := Lib.hid (HS6.out.same k7)
      have HE7 := Lib.hid (HE6.out.keeps0 k7)
      obtain ⟨yb, hyb⟩ : ∃ yb, yb = w6.heap.size := ⟨_, rfl⟩
      rw [← hyb] at HB7 ⊢
      clear hw7 k7 hyb HD6 HS6 HE6
      refine (of_err w7 HE7.out HS7.out.etyw).mono ?_
      rintro e w8 ⟨rfl, k8⟩
      have HB8 := Lib.hid (HB7.out.keeps k8 id)
      have HD8 := Lib.hid (HD7.out.keeps k8)
      have HS8 := Lib.hid (HS7.out.same k8)
      clear k8 HB7 HD7 HS7 HE7
      have hrb : (R.1 != R.1) = false := by simp
      have hrb2 : (R.1 == R.1) = true := by simp
      have hy0 : ∀ W, Keeps (fun _ => False) w8 W → W.cell? ⟨yb, 0, none⟩ = some (.slice a6 n6 c6) := fun W kk => (HB8.out.keeps kk id).cells3.1
      have hy1 : ∀ W, Keeps (fun _ => False) w8 W → W.cell? ⟨yb, 1, none⟩ = some (.int .i64 10000) := fun W kk => (HB8.out.keeps kk id).cells3.2.1
      have hy2 : ∀ W, Keeps (fun _ => False) w8 W → W.cell? ⟨yb, 2, none⟩ = some (.int .i64 (R.2.1 : Nat)) := fun W kk => (HB8.out.keeps kk id).cells3.2.2
      have hzz := fun W (kk : Keeps (fun _ => False) w8 W) => gall_any (HS8.out.same kk) tLog (k : Int) (by decide)
      have hzy := fun W (kk : Keeps (fun _ => False) w8 W) => rall_any W (.slice a6 n6 c6) 10000 (R.2.1 : Nat) R.2.2 tLog (k : Int) (HD8.out.keeps kk) (by rw [← HL5.out, List.length_map]; omega) (by decide)
      rw [HL5.out, HHK.out] at hzz
      rw [HHK.out] at hzy
      unfold docS at hzy
      obtain ⟨ds, hds⟩ : ∃ ds, ds = allP R.2.2 tLog k := ⟨_, rfl⟩
      rw [← hds] at hzz hzy
      have hdl := allP_len R.2.2 tLog k
      rw [← hds] at hdl
      have HZZ := Lib.hid hzz
      have HZY := Lib.hid hzy
      have HLA := Lib.hid (fun W (kk : Keeps (fun _ => False) w8 W) => rlast_any W ai ni ci items (HIT.out.keeps (HS8.out.keeps.trans kk) (fun _ _ => id)) hni)
      have HKK := Lib.hid HS8.out.keeps
      have hit := HIT.out.keeps HS8.out.keeps (S := fun _ => False) (fun _ _ => id)
      clear hzz hzy hds HB8 HD8 HS8 HL5
      obtain ⟨la, hla⟩ : ∃ la, la = lastI items := ⟨_, rfl⟩
      rw [← hla] at HLA
      rcases Nat.eq_zero_or_pos ni with h0 | h0
      · have hl0 : la = 0 := by
          rw [hla]
          have : items = [] := List.eq_nil_of_length_eq_zero (by rw [hit.1]; exact h0)
          rw [this]; rfl
        subst h0 hl0
        clear hit hla
        go_upto_region 18 with (fail)
        as_aux_lemma =>
        go_region_held3 (fun W => Keeps (fun _ => False) w8 W)
          ((repeat (first | (with_reducible assumption) | (with_reducible exact Keeps.refl _ _) | refine Keeps.drew ?_ | refine Keeps.drewN ?_ _ | refine Keeps.setCell ?_ (by simp) _ | refine Keeps.setRow ?_ (by simp) _ | refine Keeps.alloc ?_ _)))
          (first
            | (go_at_call 15; rename_i hk _ _; refine (HZZ.out _ hk).mono ?_; rintro e w9 ⟨⟨v9, rfl, hO9⟩, k9⟩; have kk9 : Keeps (fun _ => False) w8 w9 := hk.trans k9; obtain ⟨a9, c9, rfl⟩ := hO9.sl'; obtain ⟨-, hs9⟩ := slat_own hO9; have HA9 := Lib.hid (fun W (kk : Keeps (fun _ => False) w9 W) => hs9.keeps kk (fun _ _ => id)); clear hO9 hs9; rw [List.length_map])
            | (go_at_call 16; rename_i hk _ _; refine (HZY.out _ hk).mono ?_; rintro e w10 ⟨⟨v10, rfl, hO10⟩, k10⟩; have kk10 : Keeps (fun _ => False) w8 w10 := hk.trans k10; obtain ⟨a10, c10, rfl⟩ := hO10.sl'; obtain ⟨-, hs10⟩ := slat_own hO10; have HA10 := Lib.hid (fun W (kk : Keeps (fun _ => False) w10 W) => hs10.keeps kk (fun _ _ => id)); clear hO10 hs10; rw [List.length_map]))
        have HK10 := Lib.hid (HKK.out.trans kk10)
        have HSA := Lib.hid (fun W (kk : Keeps (fun _ => False) w10 W) => HA9.out W (k10.trans kk))
        have HSB := HA10
        have HLA2 := Lib.hid (fun W (kk : Keeps (fun _ => False) w10 W) => HLA.out W (kk10.trans kk))
        have HW10 := Lib.hid (fun W (kk : Keeps (fun _ => False) w10 W) => HW.out W (HK10.out.trans kk))
        clear k9 k10 kk9 kk10 HA9 HLA HKK HZZ HZY hy0 hy1 hy2 hk hrb hrb2
        try clear i1
        go_wp2_with fail
        go_loopw [20] (fun u20 wr => ∃ i : Nat, u20 = .int .i64 i ∧ i ≤ ds.length ∧ Hid (Keeps (fun _ => False) w10 wr)) (fun u20 _ => ds.length - (intOf u20).toNat)
        case atStart => exact ⟨0, rfl, Nat.zero_le _, Lib.hid (Keeps.refl _ _)⟩
        case round =>
          obtain ⟨i, rfl, hi, HI⟩ := hrel
          rename World => wr
          by_cases hlt : i < ds.length
          · obtain ⟨d, hd⟩ : ∃ d, ds[i]? = some d := ⟨_, List.getElem?_eq_getElem hlt⟩
            obtain ⟨b9, o9, rfl, hc9⟩ := slat_at (HSA.out wr HI.out) hd
            obtain ⟨b10, o10, rfl, hc10⟩ := slat_at (HSB.out wr HI.out) hd
            clear hd
            go_wp2_with fail
            go_region
            go_wp2_with fail
            exact ⟨⟨i + 1, by go_num, by omega, Keeps.drew HI.out⟩, by simp [intOf]; omega⟩
          · go_wp2_with fail
            refine (HLA2.out _ HI.out).mono ?_
            rintro e w11 ⟨rfl, hw⟩
            obtain rfl : wr = w11 := hw.symm
            go_wp2_with fail
            refine (HW10.out _ HI.out).mono ?_
            rintro e w11 ⟨rfl, k11⟩
            have HK11 := Lib.hid ((HK10.out.trans HI.out).trans k11)
            clear k11
            go_wp2_with fail
            go_ret
            exact ⟨rfl, HK11.out⟩
      · obtain ⟨x, hx⟩ : ∃ x, items[ni - 1]? = some x := ⟨_, List.getElem?_eq_getElem (by rw [hit.1]; omega)⟩
        have hlx : la = x.at_ := by rw [hla]; unfold lastI; rw [List.getLast?_eq_getElem?, hit.1, hx]
        obtain ⟨b2, off, rfl, _, hc⟩ := itm_at hit hx
        obtain ⟨-, i1, -⟩ := hc w8 (Keeps.refl _ _)
        rw [← hlx] at i1
        have hwn : ((ni : Int) - 1).toNat = ni - 1 := by omega
        clear hit hx hc hlx hla
        go_upto_region 18 with (fail)
        as_aux_lemma =>
        go_region_held3 (fun W => Keeps (fun _ => False) w8 W)
          ((repeat (first | (with_reducible assumption) | (with_reducible exact Keeps.refl _ _) | refine Keeps.drew ?_ | refine Keeps.drewN ?_ _ | refine Keeps.setCell ?_ (by simp) _ | refine Keeps.setRow ?_ (by simp) _ | refine Keeps.alloc ?_ _)))
          (first
            | (go_at_call 15; rename_i hk _ _; refine (HZZ.out _ hk).mono ?_; rintro e w9 ⟨⟨v9, rfl, hO9⟩, k9⟩; have kk9 : Keeps (fun _ => False) w8 w9 := hk.trans k9; obtain ⟨a9, c9, rfl⟩ := hO9.sl'; obtain ⟨-, hs9⟩ := slat_own hO9; have HA9 := Lib.hid (fun W (kk : Keeps (fun _ => False) w9 W) => hs9.keeps kk (fun _ _ => id)); clear hO9 hs9; rw [List.length_map])
            | (go_at_call 16; rename_i hk _ _; refine (HZY.out _ hk).mono ?_; rintro e w10 ⟨⟨v10, rfl, hO10⟩, k10⟩; have kk10 : Keeps (fun _ => False) w8 w10 := hk.trans k10; obtain ⟨a10, c10, rfl⟩ := hO10.sl'; obtain ⟨-, hs10⟩ := slat_own hO10; have HA10 := Lib.hid (fun W (kk : Keeps (fun _ => False) w10 W) => hs10.keeps kk (fun _ _ => id)); clear hO10 hs10; rw [List.length_map]))
        have HK10 := Lib.hid (HKK.out.trans kk10)
        have HSA := Lib.hid (fun W (kk : Keeps (fun _ => False) w10 W) => HA9.out W (k10.trans kk))
        have HSB := HA10
        have HLA2 := Lib.hid (fun W (kk : Keeps (fun _ => False) w10 W) => HLA.out W (kk10.trans kk))
        have HW10 := Lib.hid (fun W (kk : Keeps (fun _ => False) w10 W) => HW.out W (HK10.out.trans kk))
        clear k9 k10 kk9 kk10 HA9 HLA HKK HZZ HZY hy0 hy1 hy2 hk hrb hrb2
        try clear i1
        go_wp2_with fail
        go_loopw [20] (fun u20 wr => ∃ i : Nat, u20 = .int .i64 i ∧ i ≤ ds.length ∧ Hid (Keeps (fun _ => False) w10 wr)) (fun u20 _ => ds.length - (intOf u20).toNat)
        case atStart => exact ⟨0, rfl, Nat.zero_le _, Lib.hid (Keeps.refl _ _)⟩
        case round =>
          obtain ⟨i, rfl, hi, HI⟩ := hrel
          rename World => wr
          by_cases hlt : i < ds.length
          · obtain ⟨d, hd⟩ : ∃ d, ds[i]? = some d := ⟨_, List.getElem?_eq_getElem hlt⟩
            obtain ⟨b9, o9, rfl, hc9⟩ := slat_at (HSA.out wr HI.out) hd
            obtain ⟨b10, o10, rfl, hc10⟩ := slat_at (HSB.out wr HI.out) hd
            clear hd
            go_wp2_with fail
            go_region
            go_wp2_with fail
            exact ⟨⟨i + 1, by go_num, by omega, Keeps.drew HI.out⟩, by simp [intOf]; omega⟩
          · go_wp2_with fail
            refine (HLA2.out _ HI.out).mono ?_
            rintro e w11 ⟨rfl, hw⟩
            obtain rfl : wr = w11 := hw.symm
            go_wp2_with fail
            refine (HW10.out _ HI.out).mono ?_
            rintro e w11 ⟨rfl, k11⟩
            have HK11 := Lib.hid ((HK10.out.trans HI.out).trans k11)
            clear k11
            go_wp2_with fail
            go_ret
            exact ⟨rfl, HK11.out⟩
    | false =>
      as_aux_lemma =>
      go_wp2_with fail
      refine HRD.out.mono ?_
      rintro e w3 ⟨rfl, hw⟩
      obtain rfl : w2 = w3 := hw.symm
      clear HRD
      have HS4 := HS2
      have HD4 := HD2
      have HB4 := HB2
      go_wp2_with fail
      have hbg := resbegin_any HS4.out (by decide) tLog (k : Int) (by decide)
      unfold beginP at hbg
      rw [HG.out, HHK.out] at hbg
      have htn := fun W v' (h : DocL W v' (L.map SRep.f)) hl => rturn_any W v' 10000 0 (L.map SRep.f) tLog (k : Int) h hl (by decide) (by decide)
      rw [HHK.out] at htn
      obtain ⟨R, hR⟩ : ∃ R, R = turnP tLog (k - 1) 0 (L.map SRep.f) := ⟨_, rfl⟩
      simp only at hbg
      rw [← hR] at hbg htn
      have HBG := Lib.hid hbg
      have HTN := Lib.hid htn
      clear hbg htn hR
      refine HBG.out.mono ?_
      rintro e w5 ⟨v5, L5, rfl, E5, S5, hl5, k5⟩
      have HE5 := Lib.hid E5
      have HS5 := Lib.hid S5
      have HL5 := Lib.hid hl5
      have HD5 := Lib.hid (show DocL w5 (.slice av nv cv) (L.map SRep.f) by have := HD4.out; exact Sto.doc this k5)
      have hb5 := HB4.out.other k5 (by decide) (by decide) (by decide)
      obtain ⟨x0, x1, x2⟩ := hb5.cells3
      clear E5 S5 hl5 k5 hb5 HS4 HD4 HB4 HBG
      have hll := HS5.out.len
      have hlen0 : (L.map SRep.f).length ≤ 1048576 := by have := (show L.length ≤ 64 from HLEN.out); rw [List.length_map]; omega
      go_wp2_with fail
      have htn := HTN.out w5 _ HD5.out hlen0
      unfold DocAfter docS at htn
      refine htn.mono ?_
      clear htn
      rintro e w6 ⟨v6, rfl, D6, k6⟩
      obtain ⟨a6, n6, c6, rfl⟩ := D6.slc
      have HD6 := Lib.hid D6
      have HS6 := Lib.hid (HS5.out.same k6)
      have HE6 := Lib.hid (HE5.out.keeps0 k6)
      clear D6 k6 x0 x1 x2 HS5 HE5 HD5 HTN
      go_wp2_with fail
      obtain ⟨w7, hw7⟩ : ∃ w7, w7 = w6.alloc (.cells #[.slice a6 n6 c6, .int .i64 10000, .int .i64 (R.2.1 : Nat)] 27) := ⟨_, rfl⟩
      have k7 : Keeps (fun _ => False) w6 w7 := by rw [hw7]; exact (Keeps.refl _ _).alloc _
      have HB7 := Lib.hid (show Blk w7 w6.heap.size 27 #[.slice a6 n6 c6, .int .i64 10000, .int .i64 (R.2.1 : Nat)] by rw [hw7]; exact Blk.new _ _ _)
      rw [← hw7]
      have HD7 := Lib.hid (HD6.out.keeps k7)
      have HS7 := Lib.hid (HS6.out.same k7)
      have HE7 := Lib.hid (HE6.out.keeps0 k7)
      obtain ⟨yb, hyb⟩ : ∃ yb, yb = w6.heap.size := ⟨_, rfl⟩
      rw [← hyb] at HB7 ⊢
      clear hw7 k7 hyb HD6 HS6 HE6
      refine (of_err w7 HE7.out HS7.out.etyw).mono ?_
      rintro e w8 ⟨rfl, k8⟩
      have HB8 := Lib.hid (HB7.out.keeps k8 id)
      have HD8 := Lib.hid (HD7.out.keeps k8)
      have HS8 := Lib.hid (HS7.out.same k8)
      clear k8 HB7 HD7 HS7 HE7
      have hrb : (R.1 != R.1) = false := by simp
      have hrb2 : (R.1 == R.1) = true := by simp
      have hy0 : ∀ W, Keeps (fun _ => False) w8 W → W.cell? ⟨yb, 0, none⟩ = some (.slice a6 n6 c6) := fun W kk => (HB8.out.keeps kk id).cells3.1
      have hy1 : ∀ W, Keeps (fun _ => False) w8 W → W.cell? ⟨yb, 1, none⟩ = some (.int .i64 10000) := fun W kk => (HB8.out.keeps kk id).cells3.2.1
      have hy2 : ∀ W, Keeps (fun _ => False) w8 W → W.cell? ⟨yb, 2, none⟩ = some (.int .i64 (R.2.1 : Nat)) := fun W kk => (HB8.out.keeps kk id).cells3.2.2
      have hzz := fun W (kk : Keeps (fun _ => False) w8 W) => gall_any (HS8.out.same kk) tLog (k : Int) (by decide)
      have hzy := fun W (kk : Keeps (fun _ => False) w8 W) => rall_any W (.slice a6 n6 c6) 10000 (R.2.1 : Nat) R.2.2 tLog (k : Int) (HD8.out.keeps kk) (by rw [← HL5.out, List.length_map]; omega) (by decide)
      rw [HL5.out, HHK.out] at hzz
      rw [HHK.out] at hzy
      unfold docS at hzy
      obtain ⟨ds, hds⟩ : ∃ ds, ds = allP R.2.2 tLog k := ⟨_, rfl⟩
      rw [← hds] at hzz hzy
      have hdl := allP_len R.2.2 tLog k
      rw [← hds] at hdl
      have HZZ := Lib.hid hzz
      have HZY := Lib.hid hzy
      have HLA := Lib.hid (fun W (kk : Keeps (fun _ => False) w8 W) => rlast_any W ai ni ci items (HIT.out.keeps (HS8.out.keeps.trans kk) (fun _ _ => id)) hni)
      have HKK := Lib.hid HS8.out.keeps
      have hit := HIT.out.keeps HS8.out.keeps (S := fun _ => False) (fun _ _ => id)
      clear hzz hzy hds HB8 HD8 HS8 HL5
      obtain ⟨la, hla⟩ : ∃ la, la = lastI items := ⟨_, rfl⟩
      rw [← hla] at HLA
      rcases Nat.eq_zero_or_pos ni with h0 | h0
      · have hl0 : la = 0 := by
          rw [hla]
          have : items = [] := List.eq_nil_of_length_eq_zero (by rw [hit.1]; exact h0)
          rw [this]; rfl
        subst h0 hl0
        clear hit hla
        go_upto_region 18 with (fail)
        as_aux_lemma =>
        go_region_held3 (fun W => Keeps (fun _ => False) w8 W)
          ((repeat (first | (with_reducible assumption) | (with_reducible exact Keeps.refl _ _) | refine Keeps.drew ?_ | refine Keeps.drewN ?_ _ | refine Keeps.setCell ?_ (by simp) _ | refine Keeps.setRow ?_ (by simp) _ | refine Keeps.alloc ?_ _)))
          (first
            | (go_at_call 15; rename_i hk _ _; refine (HZZ.out _ hk).mono ?_; rintro e w9 ⟨⟨v9, rfl, hO9⟩, k9⟩; have kk9 : Keeps (fun _ => False) w8 w9 := hk.trans k9; obtain ⟨a9, c9, rfl⟩ := hO9.sl'; obtain ⟨-, hs9⟩ := slat_own hO9; have HA9 := Lib.hid (fun W (kk : Keeps (fun _ => False) w9 W) => hs9.keeps kk (fun _ _ => id)); clear hO9 hs9; rw [List.length_map])
            | (go_at_call 16; rename_i hk _ _; refine (HZY.out _ hk).mono ?_; rintro e w10 ⟨⟨v10, rfl, hO10⟩, k10⟩; have kk10 : Keeps (fun _ => False) w8 w10 := hk.trans k10; obtain ⟨a10, c10, rfl⟩ := hO10.sl'; obtain ⟨-, hs10⟩ := slat_own hO10; have HA10 := Lib.hid (fun W (kk : Keeps (fun _ => False) w10 W) => hs10.keeps kk (fun _ _ => id)); clear hO10 hs10; rw [List.length_map]))
        have HK10 := Lib.hid (HKK.out.trans kk10)
        have HSA := Lib.hid (fun W (kk : Keeps (fun _ => False) w10 W) => HA9.out W (k10.trans kk))
        have HSB := HA10
        have HLA2 := Lib.hid (fun W (kk : Keeps (fun _ => False) w10 W) => HLA.out W (kk10.trans kk))
        have HW10 := Lib.hid (fun W (kk : Keeps (fun _ => False) w10 W) => HW.out W (HK10.out.trans kk))
        clear k9 k10 kk9 kk10 HA9 HLA HKK HZZ HZY hy0 hy1 hy2 hk hrb hrb2
        try clear i1
        go_wp2_with fail
        go_loopw [20] (fun u20 wr => ∃ i : Nat, u20 = .int .i64 i ∧ i ≤ ds.length ∧ Hid (Keeps (fun _ => False) w10 wr)) (fun u20 _ => ds.length - (intOf u20).toNat)
        case atStart => exact ⟨0, rfl, Nat.zero_le _, Lib.hid (Keeps.refl _ _)⟩
        case round =>
          obtain ⟨i, rfl, hi, HI⟩ := hrel
          rename World => wr
          by_cases hlt : i < ds.length
          · obtain ⟨d, hd⟩ : ∃ d, ds[i]? = some d := ⟨_, List.getElem?_eq_getElem hlt⟩
            obtain ⟨b9, o9, rfl, hc9⟩ := slat_at (HSA.out wr HI.out) hd
            obtain ⟨b10, o10, rfl, hc10⟩ := slat_at (HSB.out wr HI.out) hd
            clear hd
            go_wp2_with fail
            go_region
            go_wp2_with fail
            exact ⟨⟨i + 1, by go_num, by omega, Keeps.drew HI.out⟩, by simp [intOf]; omega⟩
          · go_wp2_with fail
            refine (HLA2.out _ HI.out).mono ?_
            rintro e w11 ⟨rfl, hw⟩
            obtain rfl : wr = w11 := hw.symm
            go_wp2_with fail
            refine (HW10.out _ HI.out).mono ?_
            rintro e w11 ⟨rfl, k11⟩
            have HK11 := Lib.hid ((HK10.out.trans HI.out).trans k11)
            clear k11
            go_wp2_with fail
            go_ret
            exact ⟨rfl, HK11.out⟩
      · obtain ⟨x, hx⟩ : ∃ x, items[ni - 1]? = some x := ⟨_, List.getElem?_eq_getElem (by rw [hit.1]; omega)⟩
        have hlx : la = x.at_ := by rw [hla]; unfold lastI; rw [List.getLast?_eq_getElem?, hit.1, hx]
        obtain ⟨b2, off, rfl, _, hc⟩ := itm_at hit hx
        obtain ⟨-, i1, -⟩ := hc w8 (Keeps.refl _ _)
        rw [← hlx] at i1
        have hwn : ((ni : Int) - 1).toNat = ni - 1 := by omega
        clear hit hx hc hlx hla
        go_upto_region 18 with (fail)
        as_aux_lemma =>
        go_region_held3 (fun W => Keeps (fun _ => False) w8 W)
          ((repeat (first | (with_reducible assumption) | (with_reducible exact Keeps.refl _ _) | refine Keeps.drew ?_ | refine Keeps.drewN ?_ _ | refine Keeps.setCell ?_ (by simp) _ | refine Keeps.setRow ?_ (by simp) _ | refine Keeps.alloc ?_ _)))
          (first
            | (go_at_call 15; rename_i hk _ _; refine (HZZ.out _ hk).mono ?_; rintro e w9 ⟨⟨v9, rfl, hO9⟩, k9⟩; have kk9 : Keeps (fun _ => False) w8 w9 := hk.trans k9; obtain ⟨a9, c9, rfl⟩ := hO9.sl'; obtain ⟨-, hs9⟩ := slat_own hO9; have HA9 := Lib.hid (fun W (kk : Keeps (fun _ => False) w9 W) => hs9.keeps kk (fun _ _ => id)); clear hO9 hs9; rw [List.length_map])
            | (go_at_call 16; rename_i hk _ _; refine (HZY.out _ hk).mono ?_; rintro e w10 ⟨⟨v10, rfl, hO10⟩, k10⟩; have kk10 : Keeps (fun _ => False) w8 w10 := hk.trans k10; obtain ⟨a10, c10, rfl⟩ := hO10.sl'; obtain ⟨-, hs10⟩ := slat_own hO10; have HA10 := Lib.hid (fun W (kk : Keeps (fun _ => False) w10 W) => hs10.keeps kk (fun _ _ => id)); clear hO10 hs10; rw [List.length_map]))
        have HK10 := Lib.hid (HKK.out.trans kk10)
        have HSA := Lib.hid (fun W (kk : Keeps (fun _ => False) w10 W) => HA9.out W (k10.trans kk))
        have HSB := HA10
        have HLA2 := Lib.hid (fun W (kk : Keeps (fun _ => False) w10 W) => HLA.out W (kk10.trans kk))
        have HW10 := Lib.hid (fun W (kk : Keeps (fun _ => False) w10 W) => HW.out W (HK10.out.trans kk))
        clear k9 k10 kk9 kk10 HA9 HLA HKK HZZ HZY hy0 hy1 hy2 hk hrb hrb2
        try clear i1
        go_wp2_with fail
        go_loopw [20] (fun u20 wr => ∃ i : Nat, u20 = .int .i64 i ∧ i ≤ ds.length ∧ Hid (Keeps (fun _ => False) w10 wr)) (fun u20 _ => ds.length - (intOf u20).toNat)
        case atStart => exact ⟨0, rfl, Nat.zero_le _, Lib.hid (Keeps.refl _ _)⟩
        case round =>
          obtain ⟨i, rfl, hi, HI⟩ := hrel
          rename World => wr
          by_cases hlt : i < ds.length
          · obtain ⟨d, hd⟩ : ∃ d, ds[i]? = some d := ⟨_, List.getElem?_eq_getElem hlt⟩
            obtain ⟨b9, o9, rfl, hc9⟩ := slat_at (HSA.out wr HI.out) hd
            obtain ⟨b10, o10, rfl, hc10⟩ := slat_at (HSB.out wr HI.out) hd
            clear hd
            go_wp2_with fail
            go_region
            go_wp2_with fail
            exact ⟨⟨i + 1, by go_num, by omega, Keeps.drew HI.out⟩, by simp [intOf]; omega⟩
          · go_wp2_with fail
            refine (HLA2.out _ HI.out).mono ?_
            rintro e w11 ⟨rfl, hw⟩
            obtain rfl : wr = w11 := hw.symm
            go_wp2_with fail
            refine (HW10.out _ HI.out).mono ?_
            rintro e w11 ⟨rfl, k11⟩
            have HK11 := Lib.hid ((HK10.out.trans HI.out).trans k11)
            clear k11
            go_wp2_with fail
            go_ret
            exact ⟨rfl, HK11.out⟩
theorem restoreBegins_walk (w : World) (a : Option Addr) (n c : Nat) (l : List File21) (m : Int) (fail : Bool) (ai : Option Addr) (ni ci : Nat) (items : List Itm) (hl : SlAt fileR 3 w a n l ∧ ∀ x ∈ l, x.good) (hm : Lit.wf (.int .u8 m) = true) (hi : SlAt itmR 3 w ai ni items ∧ (∀ x ∈ items, x.good) ∧ ni ≤ maxLen) (he : Ety w) :
    Calls Tryz.prog 3 #[.slice a n c, .int .u8 m, .bool fail, .slice ai ni ci] w fun e w' => e = .returned (.bool true) ∧ Keeps (fun _ => False) w w' :=
  restoreBegins_any w a n c l m fail ai ni ci items hl hm hi he
end Go.Proofs.YtdbnalocmjkncaaGreatDoor
