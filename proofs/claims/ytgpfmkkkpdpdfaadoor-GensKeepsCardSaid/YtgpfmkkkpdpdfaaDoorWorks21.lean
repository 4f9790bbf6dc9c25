/-
  works of law21: true, and only new blocks.
-/
import Derived.Test.YtgpfmkkkpdpdfaaDoorGensC
namespace Go.Proofs.YtgpfmkkkpdpdfaaDoor
open Go.RowKit Go.Maps

/-- a row of texts that lies in a block of texts -/
def StrT (w : World) (a : Option Addr) (l : List ByteArray) : Prop := l ≠ [] → ∃ b cs, a = some ⟨b, 0, none⟩ ∧ Blk w b 9 cs ∧ ∀ (i : Nat) (s : ByteArray), l[i]? = some s → cs[i]? = some (.string s)
theorem StrT.of_own {w : World} {B : Nat} {a : Option Addr} {n c : Nat} {l : List ByteArray} (h : OwnL w B 9 (.slice a n c) (l.map Value.string)) : StrT w a l := fun hl => by
  obtain ⟨a1, c1, hv, _, _, h1, h2⟩ := h.shape
  injection hv with e1 e2 e3
  subst e1
  have hp : 0 < (l.map Value.string).length := by rw [List.length_map]; exact List.length_pos_iff.2 hl
  obtain ⟨g, rfl, _, _⟩ := h1 hp
  obtain ⟨cs, hb⟩ := h.ownBlk g rfl
  refine ⟨g, cs, rfl, hb, fun i s hs => ?_⟩
  rw [← hb.cell i]
  exact (h2 g rfl i (.string s) (by rw [List.getElem?_map, hs]; rfl)).1
theorem StrT.other {w w' : World} {a : Option Addr} {l : List ByteArray} {F : Nat → Prop} (h : StrT w a l) (k : Keeps (fun i => F i ∧ StT w i) w w') : StrT w' a l := fun hl => by
  obtain ⟨b, cs, ha, hb, hc⟩ := h hl
  exact ⟨b, cs, ha, hb.other k (by decide) (by decide) (by decide), hc⟩
theorem StrT.same {w w' : World} {a : Option Addr} {l : List ByteArray} (h : StrT w a l) (k : Keeps (fun _ => False) w w') : StrT w' a l := fun hl => by
  obtain ⟨b, cs, ha, hb, hc⟩ := h hl
  exact ⟨b, cs, ha, hb.keeps k id, hc⟩
theorem StrT.slat {w : World} {a : Option Addr} {l : List ByteArray} (h : StrT w a l) : SlAt strR 1 w a l.length l := by
  refine ⟨rfl, fun hn => ?_⟩
  obtain ⟨b, cs, ha, hb, hc⟩ := h (List.length_pos_iff.1 hn)
  refine ⟨b, 0, ha, hb.lt, fun i x j v hx hv => ?_⟩
  match j, hv with
  | 0, hv =>
    simp [strR] at hv
    subst hv
    have := hb.cell i
    rw [hc i x hx] at this
    simpa using this
  | j + 1, hv => simp [strR] at hv

abbrev cA : ByteArray := ⟨#[97]⟩
abbrev cA1 : ByteArray := ⟨#[97, 46, 49]⟩
abbrev cA2 : ByteArray := ⟨#[97, 46, 50]⟩
theorem gA0 : genName cA ((0 : Nat) : Int) = cA := genName_zero (by omega)
theorem gA1 : genName cA ((1 : Nat) : Int) = cA1 := by rw [genName_pos (by omega), dec_pos (by omega), decN_small (by decide)]; rfl
theorem gA2 : genName cA ((2 : Nat) : Int) = cA2 := by rw [genName_pos (by omega), dec_pos (by omega), decN_small (by decide)]; rfl
theorem gA12 : genName cA 12 = ⟨#[97, 46, 49, 50]⟩ := by rw [genName_pos (by omega), dec_pos (by omega), decN_big (by decide), decN_small (by decide)]; rfl
theorem gAz : genName cA 0 = cA := genName_zero (by omega)
def lA : List SFile := [⟨cA, ⟨#[51]⟩, 0⟩, ⟨cA1, ⟨#[50]⟩, 0⟩, ⟨cA2, ⟨#[49]⟩, 0⟩]
def lB : List SFile := [⟨cA1, ⟨#[51]⟩, 0⟩, ⟨cA2, ⟨#[50]⟩, 0⟩]
theorem allA : allP lA cA 3 = [⟨#[49]⟩, ⟨#[50]⟩, ⟨#[51]⟩] := by
  rw [allP_succ, allP_succ, allP_succ]; unfold genF; rw [gA0, gA1, gA2]; rfl
theorem allB : allP lB cA 3 = [⟨#[50]⟩, ⟨#[51]⟩] := by
  rw [allP_succ, allP_succ, allP_succ]; unfold genF; rw [gA0, gA1, gA2]; rfl
theorem namesB : namesP lB cA 3 = [cA2, cA1] := by
  rw [namesP_succ, namesP_succ, namesP_succ]; unfold genF; rw [gA0, gA1, gA2]; rfl
theorem turnA : turnP cA 2 0 lA = (0, 0, lB) := by
  have h2 : goneP cA 2 0 lA = (0, 0, [⟨cA, ⟨#[51]⟩, 0⟩, ⟨cA1, ⟨#[50]⟩, 0⟩]) := by unfold goneP genF; rw [gA2]; kernel_rfl
  unfold turnP
  rw [h2, if_neg (by simp)]
  rw [turnL_cons_some (base := cA) (j := 1) (bad := 0) (l := [⟨cA, ⟨#[51]⟩, 0⟩, ⟨cA1, ⟨#[50]⟩, 0⟩]) (f := ⟨cA1, ⟨#[50]⟩, 0⟩) (x := (0, 0, [⟨cA, ⟨#[51]⟩, 0⟩, ⟨cA2, ⟨#[50]⟩, 0⟩])) (by unfold genF; rw [gA1]; rfl) (by rw [gA1, gA2]; kernel_rfl), if_neg (by simp)]
  rw [turnL_cons_some (base := cA) (j := 0) (bad := 0) (l := [⟨cA, ⟨#[51]⟩, 0⟩, ⟨cA2, ⟨#[50]⟩, 0⟩]) (f := ⟨cA, ⟨#[51]⟩, 0⟩) (x := (0, 0, lB)) (by unfold genF; rw [gA0]; rfl) (by rw [gA0, gA1]; kernel_rfl), if_neg (by simp)]
  rfl
theorem turnB : turnP cA 2 1 lB = (12, 0, lB) := by
  have h2 : goneP cA 2 1 lB = (12, 0, lB) := by unfold goneP genF; rw [gA2]; kernel_rfl
  unfold turnP
  rw [h2, if_pos (by simp)]
theorem held3 : heldP 3 = 3 := by decide
set_option maxRecDepth 100000 in
set_option maxHeartbeats 2000000 in
theorem works21 (w : World) (he : Ety w) : Calls Tryd.prog 11 #[] w fun e w' => e = .returned (.bool true) ∧ Keeps (fun _ => False) w w' := by
  have HE := Lib.hid he
  clear he
  go_enter Tryd.func11, Tryd.ntmps11
  go_wp2_with fail
  refine (snew_ok HE.out (Keeps.refl _ _) (by decide) (by decide)).mono ?_
  rintro e w1 ⟨s, M, rfl, S1, k1⟩
  have HS1 := Lib.hid S1
  clear S1 k1
  go_wp2_with fail
  refine (sappend HS1.out (by decide) cA ⟨#[51]⟩ (by decide)).mono ?_
  rintro e w2 ⟨v, L2, rfl, E, S, l, k⟩
  rw [show appendP 100 0 (List.map SRep.f []) cA ⟨#[51]⟩ = (0, 0, [⟨cA, ⟨#[51]⟩, 0⟩]) from by kernel_rfl] at E S l
  obtain rfl := E.nil_
  have HS2 := Lib.hid S
  have HL2 := Lib.hid l
  clear E S l k
  go_wp2_with fail
  refine (sappend HS2.out (by decide) cA1 ⟨#[50]⟩ (by decide)).mono ?_
  rintro e w3 ⟨v, L3, rfl, E, S, l, k⟩
  rw [HL2.out, show appendP 100 0 [⟨cA, ⟨#[51]⟩, 0⟩] cA1 ⟨#[50]⟩ = (0, 0, [⟨cA, ⟨#[51]⟩, 0⟩, ⟨cA1, ⟨#[50]⟩, 0⟩]) from by kernel_rfl] at E S l
  obtain rfl := E.nil_
  have HS3 := Lib.hid S
  have HL3 := Lib.hid l
  clear E S l k
  go_wp2_with fail
  refine (sappend HS3.out (by decide) cA2 ⟨#[49]⟩ (by decide)).mono ?_
  rintro e w4 ⟨v, L4, rfl, E, S, l, k⟩
  rw [HL3.out, show appendP 100 0 [⟨cA, ⟨#[51]⟩, 0⟩, ⟨cA1, ⟨#[50]⟩, 0⟩] cA2 ⟨#[49]⟩ = (0, 0, lA) from by kernel_rfl] at E S l
  obtain rfl := E.nil_
  have HS4 := Lib.hid S
  have HL4 := Lib.hid l
  clear E S l k
  go_wp2_with fail
  refine (gall_any HS4.out cA 3 (by decide)).mono ?_
  rw [HL4.out, held3, allA]
  rintro e w5 ⟨⟨v5, rfl, hO⟩, k⟩
  obtain ⟨a5, c5, rfl⟩ := hO.sl'
  have HO5 := Lib.hid (StrT.of_own hO)
  have HS5 := Lib.hid (HS4.out.same k)
  clear hO k
  go_wp2_with fail
  have ht := gturn_any HS5.out (by decide) cA 3 (by decide)
  rw [HL4.out, held3, show 3 - 1 = 2 from rfl, turnA] at ht
  refine ht.mono ?_
  clear ht
  rintro e w6 ⟨v, L6, rfl, E, S, l, k⟩
  obtain rfl := E.nil_
  have HS6 := Lib.hid S
  have HL6 := Lib.hid l
  have HO6 := Lib.hid (HO5.out.same ((Keeps.refl (fun _ => False) _))|>.other k)
  clear E S l k
  go_wp2_with fail
  refine (gall_any HS6.out cA 3 (by decide)).mono ?_
  rw [HL6.out, held3, allB]
  rintro e w7 ⟨⟨v7, rfl, hO⟩, k⟩
  obtain ⟨a7, c7, rfl⟩ := hO.sl'
  have HP7 := Lib.hid (StrT.of_own hO)
  have HO7 := Lib.hid (HO6.out.same k)
  have HS7 := Lib.hid (HS6.out.same k)
  clear hO k
  go_wp2_with fail
  refine (gnames_any HS7.out cA 3 (by decide)).mono ?_
  rw [HL6.out, held3, namesB]
  rintro e w8 ⟨⟨v8, rfl, hO⟩, k⟩
  obtain ⟨a8, c8, rfl⟩ := hO.sl'
  have HQ8 := Lib.hid (StrT.of_own hO)
  have HP8 := Lib.hid (HP7.out.same k)
  have HO8 := Lib.hid (HO7.out.same k)
  have HS8 := Lib.hid (HS7.out.same k)
  clear hO k
  go_wp2_with fail
  refine (sfail HS8.out 1 (by decide)).mono ?_
  rintro e w9 ⟨L9, rfl, S, l, k⟩
  rw [HL6.out] at l
  have HS9 := Lib.hid (show Sto w w9 s M 100 1 L9 _ from S)
  have HL9 := Lib.hid l
  have HQ9 := Lib.hid (HQ8.out.other k)
  have HP9 := Lib.hid (HP8.out.other k)
  have HO9 := Lib.hid (HO8.out.other k)
  clear S l k
  go_wp2_with fail
  have ht := gturn_any HS9.out (by decide) cA 3 (by decide)
  rw [HL9.out, held3, show 3 - 1 = 2 from rfl, turnB] at ht
  refine ht.mono ?_
  clear ht
  rintro e w10 ⟨vf, L10, rfl, E, S, l, k⟩
  have HS10 := Lib.hid S
  have HE10 := Lib.hid E
  have HQ10 := Lib.hid (HQ9.out.other k)
  have HP10 := Lib.hid (HP9.out.other k)
  have HO10 := Lib.hid (HO9.out.other k)
  clear E S l k
  go_wp2_with fail
  have al := fun (W : World) (o : Obj) => (Keeps.refl (fun _ => False) W).alloc o
  have HAL := Lib.hid al
  clear al
  refine (same10_all _ a5 _ 3 3 c5 3 [⟨#[49]⟩, ⟨#[50]⟩, ⟨#[51]⟩] [⟨#[49]⟩, ⟨#[50]⟩, ⟨#[51]⟩] (HO10.out.same (HAL.out _ _)).slat (slat_mk w10 9 [⟨#[49]⟩, ⟨#[50]⟩, ⟨#[51]⟩]) (by decide) (by decide)).mono ?_
  rw [decide_eq_true (rfl : ([⟨#[49]⟩, ⟨#[50]⟩, ⟨#[51]⟩] : List ByteArray) = [⟨#[49]⟩, ⟨#[50]⟩, ⟨#[51]⟩])]
  rintro e w11 ⟨rfl, k⟩
  have HK11 := Lib.hid (Keeps.trans (HAL.out w10 _) k)
  clear k
  go_wp2_with fail
  refine (same10_all _ a7 _ 2 2 c7 2 [⟨#[50]⟩, ⟨#[51]⟩] [⟨#[50]⟩, ⟨#[51]⟩] ((HP10.out.same HK11.out).same (HAL.out _ _)).slat (slat_mk w11 9 [⟨#[50]⟩, ⟨#[51]⟩]) (by decide) (by decide)).mono ?_
  rw [decide_eq_true (rfl : ([⟨#[50]⟩, ⟨#[51]⟩] : List ByteArray) = [⟨#[50]⟩, ⟨#[51]⟩])]
  rintro e w12 ⟨rfl, k⟩
  have HK12 := Lib.hid (HK11.out.trans (Keeps.trans (HAL.out w11 _) k))
  clear k
  go_wp2_with fail
  refine (same10_all _ a8 _ 2 2 c8 2 [cA2, cA1] [cA2, cA1] ((HQ10.out.same HK12.out).same (HAL.out _ _)).slat (slat_mk w12 9 [cA2, cA1]) (by decide) (by decide)).mono ?_
  rw [decide_eq_true (rfl : ([cA2, cA1] : List ByteArray) = [cA2, cA1])]
  rintro e w13 ⟨rfl, k⟩
  have HK13 := Lib.hid (HK12.out.trans (Keeps.trans (HAL.out w12 _) k))
  clear k
  go_wp2_with fail
  refine (of_err _ (HE10.out.keeps0 HK13.out) (HS10.out.same HK13.out).etyw).mono ?_
  rintro e w14 ⟨rfl, k⟩
  have HK14 := Lib.hid ((HS10.out.keeps.trans HK13.out).trans k)
  clear k
  go_wp2_with fail
  refine (gname_any _ cA 0 (by decide) (by decide) (by decide)).mono ?_
  rw [gAz]
  rintro e w15 ⟨rfl, k⟩
  have HK15 := Lib.hid (HK14.out.trans k)
  clear k
  go_wp2_with fail
  refine (gname_any _ cA 12 (by decide) (by decide) (by decide)).mono ?_
  rw [gA12]
  rintro e w16 ⟨rfl, k⟩
  have HK16 := Lib.hid (HK15.out.trans k)
  clear k
  go_wp2_with fail
  go_ret
  exact ⟨rfl, HK16.out⟩
end Go.Proofs.YtgpfmkkkpdpdfaaDoor
