/-
  GensKeeps: behind a turn the generations stand in the order in which they stood, and none lacks but, maybe, the oldest.
-/
import Derived.Test.YtgpfmkkkpdpdfaaDoorMade21B
namespace Go.Proofs.YtgpfmkkkpdpdfaaDoor
open Go.RowKit Go.Maps

theorem okB_dig {c : UInt8} (h : 48 ≤ c.toNat ∧ c.toNat ≤ 57) : okB c = true := by
  unfold okB
  rw [decide_eq_true (by omega : 33 ≤ c.toNat), decide_eq_true (by omega : c.toNat ≤ 126), decide_eq_true (by omega : c.toNat ≠ 47)]; rfl
theorem genName_named {base : ByteArray} (hb : namedP base = true) (hz : base.size ≤ 43) {i : Nat} (hi : i ≤ 9223372036854775807) : namedP (genName base (i : Nat)) = true := by
  by_cases h0 : (i : Int) ≤ 0
  · rw [genName_zero h0]; exact hb
  · have hz2 := genName_size (base := base) (i := (i : Nat)) (by omega)
    have hl := genName_list (base := base) (i := (i : Nat)) (by omega)
    have hsz : ∀ b : ByteArray, b.size = b.data.toList.length := fun b => by simp
    refine namedP_ok ?_ (by omega) ?_
    · rw [hsz, hl, List.length_append, List.length_cons]; omega
    · rw [hl, List.all_append]
      have hb2 : base.data.toList.all okB = true := by
        unfold namedP at hb
        simp only [Bool.and_eq_true] at hb
        exact hb.2
      rw [hb2, List.all_cons, show okB 46 = true from by decide, Bool.true_and, Bool.true_and, List.all_eq_true]
      exact fun c hc => okB_dig (decN_dig _ c hc)
theorem allP_nil {l : List SFile} {base : ByteArray} : ∀ {k : Nat}, allP l base k = [] → ∀ i, i < k → genF l base i = none
  | 0, _, i, hi => by omega
  | k + 1, h, i, hi => by
    rw [allP_succ] at h
    obtain ⟨h1, h2⟩ := List.append_eq_nil_iff.1 h
    by_cases e : i = k
    · subst e
      cases hg : genF l base i with
      | none => rfl
      | some f => rw [hg] at h1; cases h1
    · exact allP_nil h2 i (by omega)
theorem log_named (i : Nat) (h : i ≤ 16) : namedP (genName cLog (i : Nat)) = true := genName_named (by decide) (by decide) (by omega)
/-- what a turn leaves, whether a call fails or not -/
theorem keeps_plain {l : List SFile} (hr : Rise SFile.name l) {o : SFile} (ho : getG SFile.name cOther l = some o) (j : Nat) (hj : j ≤ 15) (fail : Bool) (R : Int × Nat × List SFile) (hR : R = turnP cLog j (if fail then 1 else 0) l) :
    getG SFile.name cOther R.2.2 = some o ∧
      ((R.1 = 0 ∧ getG SFile.name cLog R.2.2 = none ∧ allP R.2.2 cLog (j + 1) = (match genF l cLog j with | some _ => (allP l cLog (j + 1)).drop 1 | none => allP l cLog (j + 1))) ∨
       (R.1 ≠ 0 ∧ fail = true ∧ allP l cLog (j + 1) ≠ [] ∧ allP R.2.2 cLog (j + 1) = allP l cLog (j + 1))) := by
  have h0 : genName cLog ((0 : Nat) : Int) = cLog := genName_zero (by omega)
  cases fail with
  | false =>
    obtain ⟨a1, _, _, a4, a5, a6⟩ := turn_ok (base := cLog) (l := l) log_named j (by omega) hr
    rw [hR]
    refine ⟨(a6 cOther fun i _ => log_ne _).trans ho, .inl ⟨a1, ?_, ?_⟩⟩
    · have := genV_none.1 a5
      unfold genF at this
      rwa [h0] at this
    · rw [if_neg (by simp)] at *
      rw [all_shift a5 a4]
      rw [allP_succ]
      cases genF l cLog j with
      | none => rfl
      | some f => rfl
  | true =>
    rw [if_pos rfl] at hR
    rcases turn_io (base := cLog) (l := l) (bad := 1) log_named (by omega) j (by omega) with ⟨h1, h2⟩ | ⟨h1, h2⟩
    · rw [h2] at hR
      subst hR
      have hn := allP_nil h1
      refine ⟨ho, .inl ⟨rfl, ?_, ?_⟩⟩
      · have := hn 0 (by omega)
        unfold genF at this
        rwa [h0] at this
      · rw [hn j (by omega)]
    · rw [h2] at hR
      subst hR
      exact ⟨ho, .inr ⟨by simp, rfl, h1, rfl⟩⟩
theorem StrT.drop1 {w : World} {a : Option Addr} {l : List ByteArray} (h : StrT w a l) (hl : l ≠ []) : ∃ b, a = some ⟨b, 0, none⟩ ∧ SlAt strR 1 w (some ⟨b, 1, none⟩) (l.length - 1) (l.drop 1) := by
  obtain ⟨b, cs, ha, hb, hc⟩ := h hl
  refine ⟨b, ha, by simp, fun hn => ⟨b, 1, rfl, hb.lt, fun i x j v hx hv => ?_⟩⟩
  match j, hv with
  | 0, hv =>
    simp [strR] at hv
    subst hv
    have := hb.cell (1 + i)
    rw [List.getElem?_drop] at hx
    rw [hc _ x hx] at this
    simpa using this
  | j + 1, hv => simp [strR] at hv
theorem own_cap {w : World} {B : Nat} {e : TypeId} {v : Value} {l : List ByteArray} (h : OwnL w B e v (l.map Value.string)) : ∃ a c, l.length ≤ c ∧ v = .slice a l.length c := by
  obtain ⟨a, c, hv, h1, _⟩ := h.shape
  rw [List.length_map] at hv h1
  exact ⟨a, c, h1, hv⟩
-- THE WALK
set_option maxRecDepth 100000 in
set_option maxHeartbeats 2000000 in
theorem gensKeeps_walk (w : World) (a : Option Addr) (n c : Nat) (l : List File21) (m : Int) (fail : Bool) (hl : SlAt fileR 3 w a n l ∧ ∀ x ∈ l, x.good) (hm : Lit.wf (.int .u8 m) = true) (he : Ety w) :
    Calls Tryd.prog 4 #[.slice a n c, .int .u8 m, .bool fail] w fun e w' => e = .returned (.bool true) ∧ Keeps (fun _ => False) w w' := by
  have hm : 0 ≤ m ∧ m ≤ 255 := by simpa [Lit.wf, IntKind.min, IntKind.max, IntKind.signed, IntKind.bits] using hm
  obtain ⟨k0, rfl⟩ := Int.eq_ofNat_of_zero_le hm.1
  obtain ⟨j, hj⟩ : ∃ j, j = k0 % 16 := ⟨_, rfl⟩
  have hj15 : j ≤ 15 := by omega
  have hmod : ((k0 : Nat) : Int) % 16 = (j : Int) := by omega
  have hkh : heldP ((j : Int) + 1) = j + 1 := by unfold heldP; omega
  have HW := Lib.hid (fun W (k : Keeps (fun _ => False) w W) => works21 W (ety_keeps he k (fun _ _ => id)))
  have HMA := Lib.hid (made21_any w a n c l hl he)
  have HKH := Lib.hid hkh
  clear hl he hm hj hkh
  go_enter Tryd.func4, Tryd.ntmps4
  go_wp2_with fail
  refine HMA.out.mono ?_
  rintro e w1 ⟨s, M, L, v, rfl, hS, hD, hO⟩
  obtain ⟨av, nv, cv, rfl⟩ := hD.slc
  have HS1 := Lib.hid (hS.same ((Keeps.refl (fun _ => False) w1).alloc (.cells #[.slice av nv cv, .int .i64 10000, .int .i64 0] 29)))
  have HO := Lib.hid hO
  obtain ⟨l0, hl0⟩ : ∃ l0, l0 = L.map SRep.f := ⟨_, rfl⟩
  have HL := Lib.hid hl0
  clear hS hD hO hl0
  go_wp2_with fail
  have hga := gall_any HS1.out cLog ((j : Int) + 1) (by decide)
  rw [HKH.out, ← HL.out] at hga
  refine hga.mono ?_
  clear hga
  rintro e w2 ⟨⟨v2, rfl, hO2⟩, k2⟩
  obtain ⟨a2, c2, hcap, rfl⟩ := own_cap hO2
  obtain ⟨ws, hws⟩ : ∃ ws, ws = allP l0 cLog (j + 1) := ⟨_, rfl⟩
  rw [← hws] at hO2 hcap ⊢
  have hwl : ws.length ≤ 16 := by rw [hws]; have := allP_len l0 cLog (j + 1); omega
  have HWS := Lib.hid hws
  have HW2 := Lib.hid (StrT.of_own hO2)
  have HS2 := Lib.hid (HS1.out.same k2)
  clear hws hO2 k2 HS1
  go_wp2_with fail
  have hgn := gname_any w2 cLog (j : Nat) (by decide) (by omega) (by omega)
  obtain ⟨nj, hnj⟩ : ∃ nj, nj = genName cLog (j : Nat) := ⟨_, rfl⟩
  have hnz : nj.size ≤ 23 := by rw [hnj]; have := genName_size (base := cLog) (i := (j : Nat)) (by omega); have e : cLog.size = 3 := rfl; omega
  rw [← hnj] at hgn
  have HNJ := Lib.hid hnj
  refine hgn.mono ?_
  clear hgn hnj
  rintro e w3 ⟨rfl, k3⟩
  have HW3 := Lib.hid (HW2.out.same k3)
  have HS3 := Lib.hid (HS2.out.same k3)
  clear k3 HS2 HW2
  have hpl := fun R hR => keeps_plain HS3.out.rise HO.out j hj15 fail R hR
  rw [← HL.out, ← HWS.out] at hpl
  have HPL := Lib.hid hpl
  clear hpl
  cases hg : getG SFile.name nj l0 with
  | none =>
    have hgf : genF l0 cLog j = none := by unfold genF; rw [← HNJ.out]; exact hg
    have HGF := Lib.hid hgf
    have HRD := Lib.hid (sread_none HS3.out (nm := nj) (by unfold maxLen; omega) (by rw [← HL.out]; exact hg))
    clear hg hgf
    go_wp2_with fail
    refine HRD.out.mono ?_
    rintro e w4 ⟨rfl, hw⟩
    obtain rfl : w3 = w4 := hw.symm
    cases fail with
    | false =>
      have HS5 := HS3
      have HW5 := HW3
      have HL5 := HL
      clear HS3 HW3
      go_wp2_with fail
      have ht := gturn_any HS5.out (by decide) cLog ((j : Int) + 1) (by decide)
      obtain ⟨R, hR⟩ : ∃ R, R = turnP cLog (heldP ((j : Int) + 1) - 1) 0 l0 := ⟨_, rfl⟩
      rw [← HL5.out, ← hR] at ht
      have hRR : R = turnP cLog j 0 l0 := by rw [hR, HKH.out]; rfl
      obtain ⟨hro, hcase⟩ := HPL.out R hRR
      have HRO := Lib.hid hro
      refine ht.mono ?_
      clear ht hR hRR hro HPL
      rintro e w6 ⟨v6, L6, rfl, hE, hS6, hl6, k6⟩
      have HS6 := Lib.hid hS6
      have HL6 := Lib.hid hl6
      have HW6 := Lib.hid (HW5.out.other k6)
      clear hS6 hl6 k6 HS5 HW5
      have hga := gall_any HS6.out cLog ((j : Int) + 1) (by decide)
      rw [HKH.out, HL6.out] at hga
      have hrd := sread_some HS6.out (nm := cOther) (by decide) (by rw [HL6.out]; exact HRO.out)
      rcases hcase with ⟨r1, r2, r3⟩ | ⟨r1, r2, r3, r4⟩
      · rw [r1] at hE
        obtain rfl := hE.nil_
        rw [HGF.out] at r3
        simp only at r3
        rw [r3] at hga
        have HGA := Lib.hid hga
        have HR2 := Lib.hid r2
        clear hga hrd hE r1 r2 r3
        go_wp2_with fail
        refine HGA.out.mono ?_
        rintro e w7 ⟨⟨v7, rfl, hO7⟩, k7⟩
        obtain ⟨a7, c7, rfl⟩ := hO7.sl'
        rw [List.length_map]
        have HN7 := Lib.hid (StrT.of_own hO7).slat
        have HW7 := Lib.hid (HW6.out.same k7)
        have HS7 := Lib.hid (HS6.out.same k7)
        have HRD7 := Lib.hid (sread_some HS7.out (nm := cOther) (by decide) (by rw [HL6.out]; exact HRO.out))
        have HRL7 := Lib.hid (sread_none HS7.out (nm := cLog) (by decide) (by rw [HL6.out]; exact HR2.out))
        clear hO7 k7 HS6 HW6
        go_wp2_with fail
        refine HRD7.out.mono ?_
        rintro e w8 ⟨rfl, hw⟩
        obtain rfl : w7 = w8 := hw.symm
        simp only [cO]
        go_wp2_with fail
        refine HRL7.out.mono ?_
        rintro e w8 ⟨rfl, hw⟩
        obtain rfl : w7 = w8 := hw.symm
        go_wp2_with fail
        refine (same10_all _ a7 a2 ws.length ws.length c7 c2 ws ws HN7.out HW7.out.slat (by omega) (by omega)).mono ?_
        rw [decide_eq_true (Eq.refl ws)]
        rintro e w9 ⟨rfl, k9⟩
        have HK9 := Lib.hid (HS7.out.keeps.trans k9)
        clear k9
        go_wp2_with fail
        refine (HW.out _ HK9.out).mono ?_
        rintro e w' ⟨rfl, k⟩
        have HK := Lib.hid (HK9.out.trans k)
        clear k
        go_wp2_with fail
        go_ret
        exact ⟨rfl, HK.out⟩
      · have HE6 := Lib.hid hE
        obtain ⟨ty, x', rfl⟩ := hE.iface r1
        rw [r4] at hga
        have HGA := Lib.hid hga
        exact absurd r2 (by simp)
    | true =>
      go_wp2_with fail
      refine (sfail HS3.out 1 (by decide)).mono ?_
      rintro e w5 ⟨L5, rfl, S, l5, k5⟩
      have HS5 := Lib.hid (show Sto w w5 s M 10000 1 L5 _ from S)
      have HL5 := Lib.hid (show l0 = L5.map SRep.f from HL.out.trans l5.symm)
      have HW5 := Lib.hid (HW3.out.other k5)
      clear S l5 k5 HS3 HW3
      go_wp2_with fail
      have ht := gturn_any HS5.out (by decide) cLog ((j : Int) + 1) (by decide)
      obtain ⟨R, hR⟩ : ∃ R, R = turnP cLog (heldP ((j : Int) + 1) - 1) 1 l0 := ⟨_, rfl⟩
      rw [← HL5.out, ← hR] at ht
      have hRR : R = turnP cLog j 1 l0 := by rw [hR, HKH.out]; rfl
      obtain ⟨hro, hcase⟩ := HPL.out R hRR
      have HRO := Lib.hid hro
      refine ht.mono ?_
      clear ht hR hRR hro HPL
      rintro e w6 ⟨v6, L6, rfl, hE, hS6, hl6, k6⟩
      have HS6 := Lib.hid hS6
      have HL6 := Lib.hid hl6
      have HW6 := Lib.hid (HW5.out.other k6)
      clear hS6 hl6 k6 HS5 HW5
      have hga := gall_any HS6.out cLog ((j : Int) + 1) (by decide)
      rw [HKH.out, HL6.out] at hga
      have hrd := sread_some HS6.out (nm := cOther) (by decide) (by rw [HL6.out]; exact HRO.out)
      rcases hcase with ⟨r1, r2, r3⟩ | ⟨r1, r2, r3, r4⟩
      · rw [r1] at hE
        obtain rfl := hE.nil_
        rw [HGF.out] at r3
        simp only at r3
        rw [r3] at hga
        have HGA := Lib.hid hga
        have HR2 := Lib.hid r2
        clear hga hrd hE r1 r2 r3
        go_wp2_with fail
        refine HGA.out.mono ?_
        rintro e w7 ⟨⟨v7, rfl, hO7⟩, k7⟩
        obtain ⟨a7, c7, rfl⟩ := hO7.sl'
        rw [List.length_map]
        have HN7 := Lib.hid (StrT.of_own hO7).slat
        have HW7 := Lib.hid (HW6.out.same k7)
        have HS7 := Lib.hid (HS6.out.same k7)
        have HRD7 := Lib.hid (sread_some HS7.out (nm := cOther) (by decide) (by rw [HL6.out]; exact HRO.out))
        have HRL7 := Lib.hid (sread_none HS7.out (nm := cLog) (by decide) (by rw [HL6.out]; exact HR2.out))
        clear hO7 k7 HS6 HW6
        go_wp2_with fail
        refine HRD7.out.mono ?_
        rintro e w8 ⟨rfl, hw⟩
        obtain rfl : w7 = w8 := hw.symm
        simp only [cO]
        go_wp2_with fail
        refine HRL7.out.mono ?_
        rintro e w8 ⟨rfl, hw⟩
        obtain rfl : w7 = w8 := hw.symm
        go_wp2_with fail
        refine (same10_all _ a7 a2 ws.length ws.length c7 c2 ws ws HN7.out HW7.out.slat (by omega) (by omega)).mono ?_
        rw [decide_eq_true (Eq.refl ws)]
        rintro e w9 ⟨rfl, k9⟩
        have HK9 := Lib.hid (HS7.out.keeps.trans k9)
        clear k9
        go_wp2_with fail
        refine (HW.out _ HK9.out).mono ?_
        rintro e w' ⟨rfl, k⟩
        have HK := Lib.hid (HK9.out.trans k)
        clear k
        go_wp2_with fail
        go_ret
        exact ⟨rfl, HK.out⟩
      · have HE6 := Lib.hid hE
        obtain ⟨ty, x', rfl⟩ := hE.iface r1
        rw [r4] at hga
        have HGA := Lib.hid hga
        have hpos : 0 < ws.length := List.length_pos_iff.2 r3
        clear hga hrd hE r1 r2 r3 r4
        go_wp2_with fail
        refine HGA.out.mono ?_
        rintro e w7 ⟨⟨v7, rfl, hO7⟩, k7⟩
        obtain ⟨a7, c7, rfl⟩ := hO7.sl'
        rw [List.length_map]
        have HN7 := Lib.hid (StrT.of_own hO7).slat
        have HW7 := Lib.hid (HW6.out.same k7)
        have HS7 := Lib.hid (HS6.out.same k7)
        have HRD7 := Lib.hid (sread_some HS7.out (nm := cOther) (by decide) (by rw [HL6.out]; exact HRO.out))
        clear hO7 k7 HS6 HW6
        go_wp2_with fail
        refine HRD7.out.mono ?_
        rintro e w8 ⟨rfl, hw⟩
        obtain rfl : w7 = w8 := hw.symm
        simp only [cO]
        go_wp2_with fail
        refine (same10_all _ a7 a2 ws.length ws.length c7 c2 ws ws HN7.out HW7.out.slat (by omega) (by omega)).mono ?_
        rw [decide_eq_true (Eq.refl ws)]
        rintro e w9 ⟨rfl, k9⟩
        have HK9 := Lib.hid (HS7.out.keeps.trans k9)
        clear k9
        go_wp2_with fail
        refine (HW.out _ HK9.out).mono ?_
        rintro e w' ⟨rfl, k⟩
        have HK := Lib.hid (HK9.out.trans k)
        clear k
        go_wp2_with fail
        go_ret
        exact ⟨rfl, HK.out⟩
  | some f =>
    have hgf : genF l0 cLog j = some f := by unfold genF; rw [← HNJ.out]; exact hg
    have hne : ws ≠ [] := by rw [HWS.out, allP_succ, hgf]; simp
    have HGF := Lib.hid hgf
    have HNE := Lib.hid hne
    have hw1 : 0 < ws.length := List.length_pos_iff.2 hne
    have HRD := Lib.hid (sread_some HS3.out (nm := nj) (by unfold maxLen; omega) (by rw [← HL.out]; exact hg))
    clear hg hgf hne
    go_wp2_with fail
    refine HRD.out.mono ?_
    rintro e w4 ⟨rfl, hw⟩
    obtain rfl : w3 = w4 := hw.symm
    cases fail with
    | false =>
      have HS5 := HS3
      have HW5 := HW3
      have HL5 := HL
      clear HS3 HW3
      go_wp2_with fail
      have ht := gturn_any HS5.out (by decide) cLog ((j : Int) + 1) (by decide)
      obtain ⟨R, hR⟩ : ∃ R, R = turnP cLog (heldP ((j : Int) + 1) - 1) 0 l0 := ⟨_, rfl⟩
      rw [← HL5.out, ← hR] at ht
      have hRR : R = turnP cLog j 0 l0 := by rw [hR, HKH.out]; rfl
      obtain ⟨hro, hcase⟩ := HPL.out R hRR
      have HRO := Lib.hid hro
      refine ht.mono ?_
      clear ht hR hRR hro HPL
      rintro e w6 ⟨v6, L6, rfl, hE, hS6, hl6, k6⟩
      have HS6 := Lib.hid hS6
      have HL6 := Lib.hid hl6
      have HW6 := Lib.hid (HW5.out.other k6)
      clear hS6 hl6 k6 HS5 HW5
      have hga := gall_any HS6.out cLog ((j : Int) + 1) (by decide)
      rw [HKH.out, HL6.out] at hga
      have hrd := sread_some HS6.out (nm := cOther) (by decide) (by rw [HL6.out]; exact HRO.out)
      rcases hcase with ⟨r1, r2, r3⟩ | ⟨r1, r2, r3, r4⟩
      · rw [r1] at hE
        obtain rfl := hE.nil_
        rw [HGF.out] at r3
        simp only at r3
        rw [r3] at hga
        have HGA := Lib.hid hga
        have HR2 := Lib.hid r2
        clear hga hrd hE r1 r2 r3
        go_wp2_with fail
        refine HGA.out.mono ?_
        rintro e w7 ⟨⟨v7, rfl, hO7⟩, k7⟩
        obtain ⟨a7, c7, rfl⟩ := hO7.sl'
        rw [List.length_map]
        have HN7 := Lib.hid (StrT.of_own hO7).slat
        have HW7 := Lib.hid (HW6.out.same k7)
        have HS7 := Lib.hid (HS6.out.same k7)
        have HRD7 := Lib.hid (sread_some HS7.out (nm := cOther) (by decide) (by rw [HL6.out]; exact HRO.out))
        have HRL7 := Lib.hid (sread_none HS7.out (nm := cLog) (by decide) (by rw [HL6.out]; exact HR2.out))
        clear hO7 k7 HS6 HW6
        go_wp2_with fail
        refine HRD7.out.mono ?_
        rintro e w8 ⟨rfl, hw⟩
        obtain rfl : w7 = w8 := hw.symm
        simp only [cO]
        by_cases hc1 : c2 = 1
        · have hw11 : ws.length = 1 := by omega
          have hz : ws.drop 1 = [] := List.drop_eq_nil_of_le (by omega)
          rw [hz] at HN7
          rw [hw11] at hcap ⊢
          have HN := HN7
          subst hc1
          clear hw11 hz hcap hw1
          go_wp2_with fail
          refine HRL7.out.mono ?_
          rintro e w8 ⟨rfl, hw⟩
          obtain rfl : w7 = w8 := hw.symm
          go_wp2_with fail
          refine (same10_all _ a7 _ 0 0 c7 _ [] [] HN.out ⟨rfl, fun h => absurd h (by omega)⟩ (by omega) (by omega)).mono ?_
          rw [decide_eq_true (Eq.refl ([] : List ByteArray))]
          rintro e w9 ⟨rfl, k9⟩
          have HK9 := Lib.hid (HS7.out.keeps.trans k9)
          clear k9
          go_wp2_with fail
          refine (HW.out _ HK9.out).mono ?_
          rintro e w' ⟨rfl, k⟩
          have HK := Lib.hid (HK9.out.trans k)
          clear k
          go_wp2_with fail
          go_ret
          exact ⟨rfl, HK.out⟩
        · obtain ⟨b2, rfl, hdr⟩ := HW7.out.drop1 HNE.out
          have HDR := Lib.hid hdr
          have hc2 : ¬ c2 = 1 := hc1
          have hdl : (ws.drop 1).length = ws.length - 1 := by rw [List.length_drop]
          have HDL := Lib.hid hdl
          obtain ⟨wl, hwl2⟩ : ∃ wl, wl = ws.length := ⟨_, rfl⟩
          rw [← hwl2] at hcap hwl hw1 HDL HDR ⊢
          have HN := HN7
          rw [HDL.out] at HN
          clear hdr hdl hwl2 hc1
          go_wp2_with fail
          refine HRL7.out.mono ?_
          rintro e w8 ⟨rfl, hw⟩
          obtain rfl : w7 = w8 := hw.symm
          go_wp2_with fail
          refine (same10_all _ a7 _ (wl - 1) (wl - 1) c7 _ (ws.drop 1) (ws.drop 1) HN.out HDR.out (by omega) (by omega)).mono ?_
          rw [decide_eq_true (Eq.refl (ws.drop 1))]
          rintro e w9 ⟨rfl, k9⟩
          have HK9 := Lib.hid (HS7.out.keeps.trans k9)
          clear k9
          go_wp2_with fail
          refine (HW.out _ HK9.out).mono ?_
          rintro e w' ⟨rfl, k⟩
          have HK := Lib.hid (HK9.out.trans k)
          clear k
          go_wp2_with fail
          go_ret
          exact ⟨rfl, HK.out⟩
      · have HE6 := Lib.hid hE
        obtain ⟨ty, x', rfl⟩ := hE.iface r1
        rw [r4] at hga
        have HGA := Lib.hid hga
        exact absurd r2 (by simp)
    | true =>
      go_wp2_with fail
      refine (sfail HS3.out 1 (by decide)).mono ?_
      rintro e w5 ⟨L5, rfl, S, l5, k5⟩
      have HS5 := Lib.hid (show Sto w w5 s M 10000 1 L5 _ from S)
      have HL5 := Lib.hid (show l0 = L5.map SRep.f from HL.out.trans l5.symm)
      have HW5 := Lib.hid (HW3.out.other k5)
      clear S l5 k5 HS3 HW3
      go_wp2_with fail
      have ht := gturn_any HS5.out (by decide) cLog ((j : Int) + 1) (by decide)
      obtain ⟨R, hR⟩ : ∃ R, R = turnP cLog (heldP ((j : Int) + 1) - 1) 1 l0 := ⟨_, rfl⟩
      rw [← HL5.out, ← hR] at ht
      have hRR : R = turnP cLog j 1 l0 := by rw [hR, HKH.out]; rfl
      obtain ⟨hro, hcase⟩ := HPL.out R hRR
      have HRO := Lib.hid hro
      refine ht.mono ?_
      clear ht hR hRR hro HPL
      rintro e w6 ⟨v6, L6, rfl, hE, hS6, hl6, k6⟩
      have HS6 := Lib.hid hS6
      have HL6 := Lib.hid hl6
      have HW6 := Lib.hid (HW5.out.other k6)
      clear hS6 hl6 k6 HS5 HW5
      have hga := gall_any HS6.out cLog ((j : Int) + 1) (by decide)
      rw [HKH.out, HL6.out] at hga
      have hrd := sread_some HS6.out (nm := cOther) (by decide) (by rw [HL6.out]; exact HRO.out)
      rcases hcase with ⟨r1, r2, r3⟩ | ⟨r1, r2, r3, r4⟩
      · rw [r1] at hE
        obtain rfl := hE.nil_
        rw [HGF.out] at r3
        simp only at r3
        rw [r3] at hga
        have HGA := Lib.hid hga
        have HR2 := Lib.hid r2
        clear hga hrd hE r1 r2 r3
        go_wp2_with fail
        refine HGA.out.mono ?_
        rintro e w7 ⟨⟨v7, rfl, hO7⟩, k7⟩
        obtain ⟨a7, c7, rfl⟩ := hO7.sl'
        rw [List.length_map]
        have HN7 := Lib.hid (StrT.of_own hO7).slat
        have HW7 := Lib.hid (HW6.out.same k7)
        have HS7 := Lib.hid (HS6.out.same k7)
        have HRD7 := Lib.hid (sread_some HS7.out (nm := cOther) (by decide) (by rw [HL6.out]; exact HRO.out))
        have HRL7 := Lib.hid (sread_none HS7.out (nm := cLog) (by decide) (by rw [HL6.out]; exact HR2.out))
        clear hO7 k7 HS6 HW6
        go_wp2_with fail
        refine HRD7.out.mono ?_
        rintro e w8 ⟨rfl, hw⟩
        obtain rfl : w7 = w8 := hw.symm
        simp only [cO]
        by_cases hc1 : c2 = 1
        · have hw11 : ws.length = 1 := by omega
          have hz : ws.drop 1 = [] := List.drop_eq_nil_of_le (by omega)
          rw [hz] at HN7
          rw [hw11] at hcap ⊢
          have HN := HN7
          subst hc1
          clear hw11 hz hcap hw1
          go_wp2_with fail
          refine HRL7.out.mono ?_
          rintro e w8 ⟨rfl, hw⟩
          obtain rfl : w7 = w8 := hw.symm
          go_wp2_with fail
          refine (same10_all _ a7 _ 0 0 c7 _ [] [] HN.out ⟨rfl, fun h => absurd h (by omega)⟩ (by omega) (by omega)).mono ?_
          rw [decide_eq_true (Eq.refl ([] : List ByteArray))]
          rintro e w9 ⟨rfl, k9⟩
          have HK9 := Lib.hid (HS7.out.keeps.trans k9)
          clear k9
          go_wp2_with fail
          refine (HW.out _ HK9.out).mono ?_
          rintro e w' ⟨rfl, k⟩
          have HK := Lib.hid (HK9.out.trans k)
          clear k
          go_wp2_with fail
          go_ret
          exact ⟨rfl, HK.out⟩
        · obtain ⟨b2, rfl, hdr⟩ := HW7.out.drop1 HNE.out
          have HDR := Lib.hid hdr
          have hc2 : ¬ c2 = 1 := hc1
          have hdl : (ws.drop 1).length = ws.length - 1 := by rw [List.length_drop]
          have HDL := Lib.hid hdl
          obtain ⟨wl, hwl2⟩ : ∃ wl, wl = ws.length := ⟨_, rfl⟩
          rw [← hwl2] at hcap hwl hw1 HDL HDR ⊢
          have HN := HN7
          rw [HDL.out] at HN
          clear hdr hdl hwl2 hc1
          go_wp2_with fail
          refine HRL7.out.mono ?_
          rintro e w8 ⟨rfl, hw⟩
          obtain rfl : w7 = w8 := hw.symm
          go_wp2_with fail
          refine (same10_all _ a7 _ (wl - 1) (wl - 1) c7 _ (ws.drop 1) (ws.drop 1) HN.out HDR.out (by omega) (by omega)).mono ?_
          rw [decide_eq_true (Eq.refl (ws.drop 1))]
          rintro e w9 ⟨rfl, k9⟩
          have HK9 := Lib.hid (HS7.out.keeps.trans k9)
          clear k9
          go_wp2_with fail
          refine (HW.out _ HK9.out).mono ?_
          rintro e w' ⟨rfl, k⟩
          have HK := Lib.hid (HK9.out.trans k)
          clear k
          go_wp2_with fail
          go_ret
          exact ⟨rfl, HK.out⟩
      · have HE6 := Lib.hid hE
        obtain ⟨ty, x', rfl⟩ := hE.iface r1
        rw [r4] at hga
        have HGA := Lib.hid hga
        have hpos : 0 < ws.length := List.length_pos_iff.2 r3
        clear hga hrd hE r1 r2 r3 r4
        go_wp2_with fail
        refine HGA.out.mono ?_
        rintro e w7 ⟨⟨v7, rfl, hO7⟩, k7⟩
        obtain ⟨a7, c7, rfl⟩ := hO7.sl'
        rw [List.length_map]
        have HN7 := Lib.hid (StrT.of_own hO7).slat
        have HW7 := Lib.hid (HW6.out.same k7)
        have HS7 := Lib.hid (HS6.out.same k7)
        have HRD7 := Lib.hid (sread_some HS7.out (nm := cOther) (by decide) (by rw [HL6.out]; exact HRO.out))
        clear hO7 k7 HS6 HW6
        go_wp2_with fail
        refine HRD7.out.mono ?_
        rintro e w8 ⟨rfl, hw⟩
        obtain rfl : w7 = w8 := hw.symm
        simp only [cO]
        go_wp2_with fail
        refine (same10_all _ a7 a2 ws.length ws.length c7 c2 ws ws HN7.out HW7.out.slat (by omega) (by omega)).mono ?_
        rw [decide_eq_true (Eq.refl ws)]
        rintro e w9 ⟨rfl, k9⟩
        have HK9 := Lib.hid (HS7.out.keeps.trans k9)
        clear k9
        go_wp2_with fail
        refine (HW.out _ HK9.out).mono ?_
        rintro e w' ⟨rfl, k⟩
        have HK := Lib.hid (HK9.out.trans k)
        clear k
        go_wp2_with fail
        go_ret
        exact ⟨rfl, HK.out⟩
end Go.Proofs.YtgpfmkkkpdpdfaaDoor
