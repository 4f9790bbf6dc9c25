/-
  works of law33: true, and only new blocks.
-/
import Derived.Test.YtkmpdobojgiegaaGreatDoorQK33B
import Derived.Test.YtkmpdobojgiegaaGreatDoorQW33P
namespace Go.Proofs.YtkmpdobojgiegaaGreatDoor
open Go.RowKit Go.Maps

section
set_option maxRecDepth 100000 in
set_option maxHeartbeats 2000000 in
theorem works33 (w : World) (he : Ety w) : Calls Tryz.prog 7 #[] w fun e w' => e = .returned (.bool true) ∧ Keeps (fun _ => False) w w' := by
  have HE := Lib.hid he
  clear he
  go_enter Tryz.func7, Tryz.ntmps7
  go_wp2_with fail
  refine (snewF HE.out (Keeps.refl _ _) (by decide) (by decide)).mono ?_
  rintro e w1 ⟨s, FT, rfl, S1, k1⟩
  have HS1 := Lib.hid S1
  clear S1 k1
  go_wp2_with fail
  have hsam := sample_any w1 z33
  rw [sam33] at hsam
  refine hsam.mono ?_
  clear hsam
  rintro e w2 ⟨rfl, k2⟩
  have HS2 := Lib.hid (HS1.out.keeps k2 (fun _ _ h => h) (fun _ _ h => h))
  clear k2
  go_wp2_with fail
  have hn := knew (mostS := 9) HS2.out 0 (by decide) (by decide) (c := c33) (by decide) (by decide) (by rw [items330]; decide) (by rw [items330]; intro x hx; cases hx) (by rw [new330])
  rw [new330] at hn
  refine hn.mono ?_
  clear hn
  rintro e w3 ⟨xb, rfl, hK, -⟩
  obtain ⟨G3, hG3⟩ : ∃ G3, G3 = Ext FT w2 w3 := ⟨_, rfl⟩
  rw [← hG3] at hK
  have HK3 := Lib.hid (show K33 w w3 G3 s 1000 xb x330 0 [] 0 from hK)
  clear hK hG3
  go_wp2_with fail
  have h4 := kother (mostS := 9) (c := z330) HK3.out (by decide) (by decide) (by decide) (by rw [items_nil]; decide) (by rw [items_nil]; intro x hx; cases hx) (by rw [new331]; decide)
  rw [new331] at h4
  refine h4.mono ?_
  clear h4
  rintro e w4 ⟨rfl, hK, -⟩
  obtain ⟨G4, hG4⟩ : ∃ G4, G4 = Ext G3 w3 w4 := ⟨_, rfl⟩
  rw [← hG4] at hK
  have HK4 := Lib.hid hK
  clear hK hG4
  go_wp2_with fail
  have h5 := kcame HK4.out (by decide) 1 (by decide) [101, 97, 114, 108, 121] (by decide)
  rw [early33] at h5
  refine h5.mono ?_
  clear h5
  rintro e w5 ⟨rfl, hK, -⟩
  obtain ⟨G5, hG5⟩ : ∃ G5, G5 = Ext G4 w4 w5 := ⟨_, rfl⟩
  rw [← hG5] at hK
  have HK5 := Lib.hid (show K33 w w5 G5 s 1000 xb x330 0 [] 2 from hK)
  clear hK hG5
  obtain ⟨lb, c0, h6⟩ := kstart HK5.out (by decide)
  go_wp2_with fail
  rw [show startL x330.m = (m331, [(1, [])]) from start33] at h6
  refine h6.mono ?_
  clear h6
  rintro e w6 ⟨v6, rfl, -, hK, -⟩
  obtain ⟨G6, hG6⟩ : ∃ G6, G6 = Ext G5 w5 w6 := ⟨_, rfl⟩
  rw [← hG6] at hK
  have HK6 := Lib.hid (show K33 w w6 G6 s 1000 xb ⟨c33, m331, Sea.new 9, [], false, 0⟩ 0 [] 3 from hK)
  clear hK hG6 c0
  obtain ⟨lb2, c0, h7⟩ := kopened HK6.out (by decide) 1 0 true
  go_wp2_with fail
  rw [show openedL (⟨c33, m331, Sea.new 9, [], false, 0⟩ : Cns).m 1 true 0 = (m332, []) from open33] at h7
  refine h7.mono ?_
  clear h7
  rintro e w7 ⟨v7, rfl, -, hK, -⟩
  obtain ⟨G7, hG7⟩ : ∃ G7, G7 = Ext G6 w6 w7 := ⟨_, rfl⟩
  rw [← hG7] at hK
  have HK7 := Lib.hid (show K33 w w7 G7 s 1000 xb x331 0 [] 4 from hK)
  clear hK hG7 c0
  go_wp2_with fail
  have h8 := kcame HK7.out (by decide) 2 (by decide) S33 (by decide)
  rw [came33] at h8
  refine h8.mono ?_
  clear h8
  rintro e w8 ⟨rfl, hK, -⟩
  obtain ⟨G8, hG8⟩ : ∃ G8, G8 = Ext G7 w7 w8 := ⟨_, rfl⟩
  rw [← hG8] at hK
  have HK8 := Lib.hid (show K33 w w8 G8 s 1000 xb x332 0 [⟨B33, R33, 0⟩] 5 from hK)
  clear hK hG8
  obtain ⟨sb, h9, h10⟩ := kcall HK8.out (by decide) 3 2 (by decide) (by decide)
  go_wp2_with fail
  refine h9.mono ?_
  clear h9
  rintro e w9 ⟨rfl, hw⟩
  obtain rfl : w8 = w9 := hw.symm
  go_wp2_with fail
  rw [show comeS x332.s 3 2 true = (s333, [(3, 2)], 0) from call33] at h10
  refine h10.mono ?_
  clear h10
  rintro e w9 ⟨v9, rfl, hK, -⟩
  obtain ⟨G9, hG9⟩ : ∃ G9, G9 = Ext G8 w8 w9 := ⟨_, rfl⟩
  rw [← hG9] at hK
  have HK9 := Lib.hid (show K33 w w9 G9 s 1000 xb x333 0 [⟨B33, R33, 0⟩] 6 from hK)
  clear hK hG9
  go_wp2_with fail
  have h11 := ktype2 HK9.out (by decide) 3 [108, 115, 10] (by decide)
  rw [type33] at h11
  refine h11.mono ?_
  clear h11
  rintro e w10 ⟨v10, rfl, hO, hK, -⟩
  obtain ⟨a10, cp10, rfl, hsl⟩ := hO.sla outR_len
  obtain ⟨G10, hG10⟩ : ∃ G10, G10 = fun i => Ext G9 w9 w10 i ∧ (Value.slice a10 [((3 : Int), ([108, 115, 10] : List UInt8))].length cp10).ownBlock ≠ some i := ⟨_, rfl⟩
  rw [← hG10] at hK
  have hno : SlOut outR 2 w10 G10 a10 1 [(3, [108, 115, 10])] := ⟨hsl, fun ad e => by
    have hob : (Value.slice a10 [((3 : Int), ([108, 115, 10] : List UInt8))].length cp10).ownBlock = some ad.block := by rw [e]; rfl
    refine ⟨?_, fun h => ?_⟩
    · obtain ⟨cs, hb⟩ := hO.ownBlk _ hob; exact hb.lt
    · rw [hG10] at h; exact h.2 hob⟩
  have HO10 := Lib.hid hno
  have HK10 := Lib.hid (show K33 w w10 G10 s 1000 xb x333 0 [⟨B33, R33, 0⟩] 7 from hK)
  clear hK hG10 hO hsl hno
  go_wp2_with fail
  have h12 := ktype HK10.out (by decide) 4 [114, 109, 10] (by decide)
  rw [type334] at h12
  refine h12.mono ?_
  clear h12
  rintro e w11 ⟨v11, rfl, -, hK, k11⟩
  obtain ⟨G11, hG11⟩ : ∃ G11, G11 = Ext G10 w10 w11 := ⟨_, rfl⟩
  have hso := HO10.out.act k11
  rw [← hG11] at hK hso
  have HO11 := Lib.hid hso
  have HK11 := Lib.hid (show K33 w w11 G11 s 1000 xb x333 0 [⟨B33, R33, 0⟩] 8 from hK)
  clear hK hG11 hso k11
  go_wp2_with fail
  have h13 := kreplay HK11.out (by decide) 2 (by decide)
  rw [show backC x333.past 2 = 3 from back33, show x333.past.length = 8 from rfl] at h13
  refine h13.mono ?_
  clear h13
  rintro e w12 ⟨rfl, k12⟩
  have HO12 := Lib.hid (HO11.out.same k12)
  have HK12 := Lib.hid (HK11.out.same k12)
  clear k12
  go_wp2_with fail
  have h14 := ksave HK12.out (by decide)
  rw [show baseOf x333.c = B33 from base33, show syncJ B33 ⟨0, [⟨B33, R33, 0⟩], x333.rest, x333.lost⟩ = _ from save33] at h14
  refine h14.mono ?_
  clear h14
  rintro e w14 ⟨rfl, hK, k14⟩
  obtain ⟨G14, hG14⟩ : ∃ G14, G14 = Ext G11 w12 w14 := ⟨_, rfl⟩
  have hso := HO12.out.act k14
  rw [← hG14] at hK hso
  have HO14 := Lib.hid hso
  have HK14 := Lib.hid (show K33 w w14 G14 s 1000 xb x333 0 [⟨B33, R33, 22⟩] 9 from hK)
  clear hK hG14 hso k14
  go_wp2_with fail
  have h15 := kcrash HK14.out [] none 0 0 ⟨rfl, fun h => absurd h (by decide)⟩ (by intro k hk; cases hk) (by decide)
  rw [crash33] at h15
  refine h15.mono ?_
  clear h15
  rintro e w15 ⟨rfl, ⟨FT2, hS, hE⟩, k15⟩
  have HO15 := Lib.hid ((HO14.out.act k15).mono hE)
  have HS15 := Lib.hid (hS.le_n (m := 1000 + 19 * 9) (by omega) (by omega))
  clear hS hE k15
  go_wp2_with fail
  have hsam := sample_any w15 z33
  rw [sam33] at hsam
  refine hsam.mono ?_
  clear hsam
  rintro e w16 ⟨rfl, k16⟩
  have HS16 := Lib.hid (HS15.out.keeps k16 (fun _ _ h => h) (fun _ _ h => h))
  have HO16 := Lib.hid (HO15.out.same k16)
  clear k16
  go_wp2_with fail
  have h17 := knew (mostS := 9) HS16.out 20 (by decide) (by decide) (c := c33) (by decide) (by decide) (by rw [items333]; decide) (by rw [items333]; intro x hx; rw [List.mem_singleton] at hx; rw [hx]; decide) (by rw [new333])
  rw [new333] at h17
  refine h17.mono ?_
  clear h17
  rintro e w17 ⟨yb, rfl, hK, k17⟩
  obtain ⟨G17, hG17⟩ : ∃ G17, G17 = Ext FT2 w16 w17 := ⟨_, rfl⟩
  have hso := HO16.out.act k17
  rw [← hG17] at hK hso
  have HO17 := Lib.hid hso
  have HK17 := Lib.hid (show K33 w w17 G17 s 1000 yb ⟨c33, lnOf c33, Sea.new 9, [99, 100, 10, 101, 102], false, 0⟩ 0 [⟨B331, R33, 22⟩] 20 from hK)
  clear hK hG17 hso k17
  obtain ⟨pb, h18, h19, -, h20⟩ := kpast HK17.out (by decide)
  have H18 := Lib.hid h18
  have H20 := Lib.hid h20
  go_wp2_with fail
  refine h18.mono ?_
  clear h18 h20
  rintro e w18 ⟨rfl, hw⟩
  obtain rfl : w17 = w18 := hw.symm
  go_wp2_with fail
  refine H18.out.mono ?_
  rintro e w18 ⟨rfl, hw⟩
  obtain rfl : w17 = w18 := hw.symm
  go_wp2_with fail
  refine (h19 _ (Keeps.refl _ _)).mono ?_
  clear h19
  rintro e w18 ⟨rfl, k18⟩
  have h21 := H20.out w18 k18 0 (by decide) (by decide)
  have HK18 := Lib.hid (HK17.out.same k18)
  have HO18 := Lib.hid (HO17.out.same k18)
  clear k18
  go_wp2_with fail
  rw [show str ((⟨c33, lnOf c33, Sea.new 9, [99, 100, 10, 101, 102], false, 0⟩ : Cns).past.drop (0 : Int).toNat) = (⟨#[99, 100, 10, 101, 102]⟩ : ByteArray) from rfl] at h21
  refine h21.mono ?_
  clear h21
  rintro e w19 ⟨rfl, k19⟩
  have HK19 := Lib.hid (HK18.out.same k19)
  have HO19 := Lib.hid (HO18.out.same k19)
  clear k19
  obtain ⟨sb2, h22, h23, -⟩ := kseat HK19.out
  go_wp2_with fail
  refine h22.mono ?_
  clear h22
  rintro e w20 ⟨rfl, hw⟩
  obtain rfl : w19 = w20 := hw.symm
  go_wp2_with fail
  have h23 : Calls Tryz.prog 25 #[.pointer (some ⟨sb2, 0, none⟩)] w19 fun e w' => e = .returned (.tuple #[.int .i64 0, .bool false]) ∧ w' = w19 := h23 _ (Keeps.refl _ _)
  refine h23.mono ?_
  clear h23
  rintro e w20 ⟨rfl, hw⟩
  obtain rfl : w19 = w20 := hw.symm
  obtain ⟨lb3, c0, h24⟩ := kcells HK19.out
  go_wp2_with fail
  have kA : Keeps (fun _ => False) w19 (w19.alloc (.cells #[.int .i64 3, .string ⟨#[108, 115, 10]⟩] 98)) := (Keeps.refl _ _).alloc _
  have h25 := r19same_all (w19.alloc (.cells #[.int .i64 3, .string ⟨#[108, 115, 10]⟩] 98)) a10 (some ⟨w19.heap.size, 0, none⟩) 1 1 cp10 1 [(3, [108, 115, 10])] [(3, [108, 115, 10])] (HO19.out.same kA).1 ⟨rfl, fun _ => ⟨w19.heap.size, 0, rfl, by simp, fun i x j v hx hv => by
    obtain ⟨rfl, rfl⟩ : i = 0 ∧ x = (3, [108, 115, 10]) := by cases i with
      | zero => simp at hx; exact ⟨rfl, hx.symm⟩
      | succ i => simp at hx
    have hb := Blk.new w19 98 #[.int .i64 3, .string ⟨#[108, 115, 10]⟩]
    have := hb.cell j
    rw [show 0 + 0 * 2 + j = j by omega, this, ← hv, show (#[.int .i64 3, .string ⟨#[108, 115, 10]⟩] : Array Value) = (outR (3, [108, 115, 10])).toArray from rfl, List.getElem?_toArray]⟩⟩ (by decide) (by decide)
  rw [show decide ([((3 : Int), ([108, 115, 10] : List UInt8))] = [(3, [108, 115, 10])]) = true from by decide] at h25
  refine h25.mono ?_
  clear h25
  rintro e w20 ⟨rfl, k20⟩
  have HK20 := Lib.hid ((HK19.out.same kA).same k20)
  clear kA k20 c0 h24
  obtain ⟨lb3, c0, h24⟩ := kcells HK20.out
  go_wp2_with fail
  have h24 : Calls Tryz.prog 26 #[.pointer (some ⟨lb3, 0, none⟩)] w20 fun e w' => e = .returned (.int .i64 0) ∧ w' = w20 := h24
  refine h24.mono ?_
  clear h24
  rintro e w21 ⟨rfl, hw⟩
  obtain rfl : w20 = w21 := hw.symm
  go_wp2_with fail
  have h26 : Calls Tryz.prog 38 #[.pointer (some ⟨yb, 0, none⟩)] w20 fun e w' => e = .returned (.string ⟨#[108, 111, 103]⟩) ∧ w' = w20 := kname HK20.out
  refine h26.mono ?_
  clear h26
  rintro e w21 ⟨rfl, hw⟩
  obtain rfl : w20 = w21 := hw.symm
  go_wp2_with fail
  go_ret
  exact ⟨rfl, HK20.out.base⟩
end
end Go.Proofs.YtkmpdobojgiegaaGreatDoor
