/-
  works of law23: true, and only new blocks.
-/
import Derived.Test.YtdbnalocmjkncaaGreatDoorQWorks22
import Derived.Test.YtdbnalocmjkncaaGreatDoorQResB
import Derived.Test.YtdbnalocmjkncaaGreatDoorQResE
import Derived.Test.YtdbnalocmjkncaaGreatDoorQTailD
import Derived.Test.YtdbnalocmjkncaaGreatDoorQRes
namespace Go.Proofs.YtdbnalocmjkncaaGreatDoor
open Go.RowKit Go.Maps

def xA23 : Itm := ⟨1, 4, ⟨#[97, 98, 10, 99]⟩⟩
def xB23 : Itm := ⟨1, 5, ⟨#[100, 10]⟩⟩
def A23 : ByteArray := str (recP xA23)
def B23 : ByteArray := str (recP xB23)
def C23 : ByteArray := (A23 ++ B23).extract 0 23
theorem xA23_ok : xA23.ok := ⟨⟨by decide, by decide⟩, ⟨by decide, by decide⟩, by decide⟩
theorem xB23_ok : xB23.ok := ⟨⟨by decide, by decide⟩, ⟨by decide, by decide⟩, by decide⟩
theorem put23a : putP 1000 jLog 3 64 0 [] A23 = (0, 0, [⟨jLog, A23, 0⟩]) := by kernel_rfl
theorem put23b : putP 1000 jLog 3 64 0 [⟨jLog, A23, 18⟩] B23 = (0, 0, [⟨jLog, A23 ++ B23, 18⟩]) := by kernel_rfl
theorem sync23 : syncP 0 [⟨jLog, A23, 0⟩] jLog = (0, 0, [⟨jLog, A23, 18⟩]) := by kernel_rfl
theorem crash23 : crashP [5] [⟨jLog, A23 ++ B23, 18⟩] = [⟨jLog, C23, 23⟩] := by kernel_rfl
theorem scan23 : scanI C23.data.toList = [xA23] := by
  have hn : ¬ Whole ((recP xB23).take 5) := by
    intro hw
    have h1 := hw.all
    have h2 : ((recP xB23).take 5).length = 5 := by decide +kernel
    omega
  have h := scan_flat (xs := [xA23]) (by intro x hx; simp only [List.mem_cons, List.not_mem_nil, or_false] at hx; rw [hx]; exact xA23_ok) ((recP xB23).take 5)
  rw [scan_no hn, List.append_nil] at h
  rw [← h]
  congr 1
theorem torn23 : tornI C23 = 5 := by
  unfold tornI scanN
  rw [scan23]
  decide +kernel
theorem turn23 : beginP jLog 2 0 [⟨jLog, C23, 23⟩] = (0, 0, [⟨jLog1, C23, 23⟩]) := by
  unfold beginP
  rw [show getG SFile.name jLog [⟨jLog, C23, 23⟩] = some ⟨jLog, C23, 23⟩ from by kernel_rfl]
  simp only
  unfold turnP
  have e2 : genName jLog ((2 : Nat) : Int) = ⟨#[108, 111, 103, 46, 50]⟩ := by rw [genName_pos (by omega), dec_pos (by omega), decN_small (by decide)]; rfl
  have h1 : goneP jLog 2 0 [⟨jLog, C23, 23⟩] = (0, 0, [⟨jLog, C23, 23⟩]) := by unfold goneP genF; rw [e2]; kernel_rfl
  rw [h1, if_neg (by simp)]
  rw [turnL_cons_none (base := jLog) (j := 1) (bad := 0) (l := [⟨jLog, C23, 23⟩]) (by unfold genF; rw [jL1]; kernel_rfl)]
  rw [turnL_cons_some (base := jLog) (j := 0) (bad := 0) (l := [⟨jLog, C23, 23⟩]) (f := ⟨jLog, C23, 23⟩) (x := (0, 0, [⟨jLog1, C23, 23⟩])) (by unfold genF; rw [jL0]; kernel_rfl) (by rw [jL0, jL1]; kernel_rfl), if_neg (by simp)]
  rfl
theorem all23 : allP [⟨jLog, C23, 23⟩] jLog (heldP 3) = [C23] := by
  have e2 : genName jLog ((2 : Nat) : Int) = ⟨#[108, 111, 103, 46, 50]⟩ := by rw [genName_pos (by omega), dec_pos (by omega), decN_small (by decide)]; rfl
  rw [show heldP 3 = 3 from rfl, allP_succ, allP_succ, allP_succ]
  unfold genF
  rw [e2, jL1, jL0]
  rfl
theorem all23b : allP [⟨jLog1, C23, 23⟩] jLog (heldP 3) = [C23] := by
  have e2 : genName jLog ((2 : Nat) : Int) = ⟨#[108, 111, 103, 46, 50]⟩ := by rw [genName_pos (by omega), dec_pos (by omega), decN_small (by decide)]; rfl
  rw [show heldP 3 = 3 from rfl, allP_succ, allP_succ, allP_succ]
  unfold genF
  rw [e2, jL1, jL0]
  rfl
theorem load23 : loadP [C23] = [xA23] := by
  unfold loadP
  rw [List.flatMap_cons, List.flatMap_nil, List.append_nil, scan23]
theorem lost23 : lostS [xA23] = 0 := by decide +kernel
theorem tornS23 : tornS ([C23].map tornI) = 5 := by
  rw [List.map_cons, List.map_nil, torn23]
  rfl
theorem loadA (w0 w : World) {s M n : Nat} {L : List SRep} (h : @Sto noRes w0 w s M 1000 0 L n) (ha : allP (L.map SRep.f) jLog (heldP 3) = [C23]) :
    Calls Tryz.prog 40 #[.pointer (some ⟨s, 0, none⟩), .string jLog, .int .i64 3] w fun e w' => (∃ a c, e = .returned (.agg #[.slice a 1 c, .int .i64 5, .int .i64 0]) ∧ OwnI w' w.heap.size (.slice a 1 c) [xA23]) ∧ Keeps (fun _ => False) w w' := by
  have hl := @resload_any noRes _ _ _ _ _ _ _ _ h jLog 3 (by decide)
  rw [ha, load23, lost23, tornS23] at hl
  refine hl.mono ?_
  rintro e w' ⟨⟨v, rfl, hO⟩, k⟩
  obtain ⟨a, c, rfl, -⟩ := hO.slat
  exact ⟨⟨a, c, rfl, hO⟩, k⟩
theorem OwnI.sl1c {w w' : World} {a : Option Addr} {x : Itm} (h : SlAt itmR 3 w a 1 [x]) (k : Keeps (fun _ => False) w w') : SlAt itmR 3 w' a 1 [x] := h.keeps k (fun _ _ => id)
theorem OwnI.sl1 {w : World} {B : Nat} {a : Option Addr} {c : Nat} {x : Itm} (h : OwnI w B (.slice a 1 c) [x]) : SlAt itmR 3 w a 1 [x] := by
  obtain ⟨a2, c2, hv, hs⟩ := h.slat
  injection hv with e1 e2 e3
  subst e1
  exact hs
attribute [local instance] noRes
set_option maxRecDepth 100000 in
set_option maxHeartbeats 2000000 in
theorem works23 (w : World) (he : Ety w) : Calls Tryz.prog 12 #[] w fun e w' => e = .returned (.bool true) ∧ Keeps (fun _ => False) w w' := by
  have HE := Lib.hid he
  clear he
  go_enter Tryz.func12, Tryz.ntmps12
  go_wp2_with fail
  refine (snew_ok HE.out (Keeps.refl _ _) (by decide) (by decide)).mono ?_
  rintro e w1 ⟨s, M, rfl, S1, k1⟩
  have HS1 := Lib.hid S1
  clear S1 k1
  go_wp2_with fail
  refine (jnew HS1.out jLog (by decide) 3 64 (by decide) (by decide)).mono ?_
  rintro e w2 ⟨⟨jb, rfl, J2⟩, k2⟩
  have HJ2 := Lib.hid J2
  clear J2 k2
  go_wp2_with fail
  refine (jadd_ok HJ2.out (by decide) (by decide) (by decide) xA23 xA23_ok (show putP 1000 jLog 3 64 0 [] A23 = _ from put23a)).mono ?_
  rintro e w3 ⟨L3, rfl, J3, hl3⟩
  have HJ3 := Lib.hid J3
  have HL3 := Lib.hid hl3
  clear J3 hl3
  go_wp2_with fail
  have hsy := jsync HJ3.out (by decide)
  rw [HL3.out, sync23] at hsy
  refine hsy.mono ?_
  clear hsy
  rintro e w4 (⟨L4, rfl, -, -, J4, hl4, -⟩ | ⟨L4, rfl, -, h0, -⟩ | ⟨L4, rfl, h0, -⟩)
  · have HJ4 := Lib.hid J4
    have HL4 := Lib.hid hl4
    clear J4 hl4
    go_wp2_with fail
    refine (jadd_ok HJ4.out (by decide) (by decide) (by decide) xB23 xB23_ok (by rw [HL4.out]; exact put23b)).mono ?_
    rintro e w5 ⟨L5, rfl, J5, hl5⟩
    have HJ5 := Lib.hid J5
    have HL5 := Lib.hid hl5
    clear J5 hl5
    go_wp2_with fail
    refine (scrash2 (HJ5.out.sto.same ((Keeps.refl _ _).alloc _)) [5] (some ⟨w5.heap.size, 0, none⟩) 1 1 (fun W kk => sl_one (Blk.new _ _ _) kk) (by decide) (by decide)).mono ?_
    rintro e w6 ⟨L6, rfl, S6, hl6, -⟩
    rw [HL5.out, crash23] at hl6
    have HS6 := Lib.hid S6
    have HL6 := Lib.hid hl6
    clear S6 hl6
    go_wp2_with fail
    refine (loadA w w6 HS6.out (by rw [HL6.out]; exact all23)).mono ?_
    rintro e w7 ⟨⟨a7, c7, rfl, hs7⟩, k7⟩
    have HS7 := Lib.hid (HS6.out.same k7)
    have HI7 := Lib.hid hs7
    clear hs7 k7
    go_wp2_with fail
    obtain ⟨wa, hwa⟩ : ∃ wa, wa = w7.alloc (.cells #[.slice a7 1 c7, .int .i64 5, .int .i64 0] 91) := ⟨_, rfl⟩
    have ka : Keeps (fun _ => False) w7 wa := by rw [hwa]; exact (Keeps.refl _ _).alloc _
    have hba : Blk wa w7.heap.size 91 #[.slice a7 1 c7, .int .i64 5, .int .i64 0] := by rw [hwa]; exact Blk.new _ _ _
    rw [← hwa]
    have HBA := Lib.hid hba
    have HSA := Lib.hid (HS7.out.same ka)
    have HIA := Lib.hid (OwnS.keeps HI7.out ka (fun _ _ _ _ => id))
    clear hwa ka hba
    refine (restail_ok wa a7 1 c7 [xA23] (OwnI.sl1 HIA.out) (by decide) (by intro x hx; simp only [List.mem_cons, List.not_mem_nil, or_false] at hx; rw [hx]; decide) 1 10 (by decide) (by decide)).mono ?_
    rintro e w8 ⟨⟨t, g, b, rfl, ht, hg, hbb, T8⟩, k8⟩
    rw [show tailP 10 1 (dataP [xA23]) = [99] from by decide +kernel] at T8
    have hrs := @Sto.reserve w wa w8 s M 0 _ 1000 L6 (fun _ => False) (fun i => i = t ∨ i = g ∨ i = b) HSA.out k8 (fun i hi => by have h1 := T8.top.lt; obtain ⟨gone, hr, -⟩ := T8.ring; have h2 := hr.lt; rcases hi with rfl | rfl | rfl <;> omega)
    have HR8 := Lib.hid hrs
    have HT8 := Lib.hid T8
    have HB8 := Lib.hid (HBA.out.keeps k8 id)
    have HI8 := Lib.hid (OwnS.keeps HIA.out k8 (fun _ _ _ _ => id))
    clear k8 T8 hrs ht hg hbb
    go_wp2_with fail
    refine (restail_bad w8 (.slice none 0 0) 0 1 (by decide)).mono ?_
    rintro e w9 ⟨rfl, hw⟩
    obtain rfl : w8 = w9 := hw.symm
    go_wp2_with fail
    have hbg := @resbegin_any ⟨fun i => False ∨ (i = t ∨ i = g ∨ i = b)⟩ w w8 s M 0 _ 1000 L6 HR8.out (by decide) jLog 3 (by decide)
    rw [HL6.out, show heldP 3 - 1 = 2 from rfl, turn23] at hbg
    refine hbg.mono ?_
    clear hbg
    rintro e w9 ⟨v9, L9, rfl, E9, S9, hl9, k9⟩
    obtain rfl := E9.nil_
    have HS9 := Lib.hid (@Sto.release w w9 s M 0 _ 1000 L9 _ (fun _ => False) S9 (fun _ h => h.elim))
    have HL9 := Lib.hid hl9
    have HT9 := Lib.hid (HT8.out.keeps k9 (fun e => e.2.1 (.inr (.inl rfl))) (fun e => e.2.1 (.inr (.inr (.inl rfl)))) (fun e => e.2.1 (.inr (.inr (.inr rfl)))))
    have HB9 := Lib.hid (HB8.out.keeps k9 (fun e => e.2.2.not HB8.out (by decide) (by decide) (by decide)))
    have HI9 := Lib.hid (OwnS.keeps HI8.out k9 (fun _ _ _ ⟨_, hb⟩ e => e.2.2.not hb (by decide) (by decide) (by decide)))
    clear E9 S9 hl9 k9
    go_wp2_with fail
    refine (sread_none HS9.out (nm := jLog) (by decide) (by rw [HL9.out]; kernel_rfl)).mono ?_
    rintro e w10 ⟨rfl, hw⟩
    obtain rfl : w9 = w10 := hw.symm
    go_wp2_with fail
    refine (loadA w w9 HS9.out (by rw [HL9.out]; exact all23b)).mono ?_
    rintro e w10 ⟨⟨a10, c10, rfl, hs10⟩, k10⟩
    have kb : Keeps (fun _ => False) w10 (w10.alloc (.cells #[.slice a10 1 c10, .int .i64 5, .int .i64 0] 91)) := (Keeps.refl _ _).alloc _
    have hbm := Blk.new w10 91 #[.slice a10 1 c10, .int .i64 5, .int .i64 0]
    have b0 := ((HB9.out.keeps k10 id).keeps kb id).cell 0
    have b1 := ((HB9.out.keeps k10 id).keeps kb id).cell 1
    have b2 := ((HB9.out.keeps k10 id).keeps kb id).cell 2
    have m0 := hbm.cell 0
    simp only [List.getElem?_toArray, List.getElem?_cons_zero, List.getElem?_cons_succ] at b0 b1 b2 m0
    have HTb := Lib.hid ((HT9.out.keeps k10 id id id).keeps kb id id id)
    have HI := Lib.hid (OwnI.sl1 (OwnS.keeps (OwnS.keeps HI9.out k10 (fun _ _ _ _ => id)) kb (fun _ _ _ _ => id)))
    have HM := Lib.hid (OwnI.sl1 (OwnS.keeps hs10 kb (fun _ _ _ _ => id)))
    have HKb := Lib.hid ((HS9.out.keeps.trans k10).trans kb)
    clear k10 hs10 kb hbm
    go_wp2_with fail
    have htt := ttext HTb.out
    rw [show str [99] = (⟨#[99]⟩ : ByteArray) from rfl] at htt
    refine htt.mono ?_
    clear htt
    rintro e w11 ⟨rfl, k11⟩
    have HKc := Lib.hid (HKb.out.trans k11)
    have HIc := Lib.hid (OwnI.sl1c HI.out k11)
    have HMc := Lib.hid (OwnI.sl1c HM.out k11)
    have x0 := (World.cell?_of_block (w := w10.alloc (.cells #[.slice a10 1 c10, .int .i64 5, .int .i64 0] 91)) (k11.block _ (block_lt_of_cell b0) id)).trans b0
    have x1 := (World.cell?_of_block (w := w10.alloc (.cells #[.slice a10 1 c10, .int .i64 5, .int .i64 0] 91)) (k11.block _ (block_lt_of_cell b1) id)).trans b1
    have x2 := (World.cell?_of_block (w := w10.alloc (.cells #[.slice a10 1 c10, .int .i64 5, .int .i64 0] 91)) (k11.block _ (block_lt_of_cell b2) id)).trans b2
    have y0 := (World.cell?_of_block (w := w10.alloc (.cells #[.slice a10 1 c10, .int .i64 5, .int .i64 0] 91)) (k11.block _ (block_lt_of_cell m0) id)).trans m0
    clear k11 b0 b1 b2 m0
    go_wp2_with fail
    refine (r8same_all w11 a10 a7 1 1 c10 c7 [xA23] [xA23] HMc.out HIc.out (by decide) (by decide)).mono ?_
    rintro e w12 ⟨rfl, k12⟩
    have z0 := (World.cell?_of_block (w := w11) (k12.block _ (block_lt_of_cell x0) id)).trans x0
    have HKd := Lib.hid (HKc.out.trans k12)
    have HId := Lib.hid (OwnI.sl1c HIc.out k12)
    rw [show decide ([xA23] = [xA23]) = true from decide_eq_true rfl]
    clear x0 x1 x2 y0 k12
    go_wp2_with fail
    refine (rlast_any w12 a7 1 c7 [xA23] HId.out (by decide)).mono ?_
    rintro e w13 ⟨rfl, hw⟩
    obtain rfl : w12 = w13 := hw.symm
    rw [show lastI [xA23] = 4 from rfl]
    go_wp2_with fail
    refine (rlast_any w12 none 0 0 [] ⟨rfl, fun h => absurd h (by decide)⟩ (by decide)).mono ?_
    rintro e w13 ⟨rfl, hw⟩
    obtain rfl : w12 = w13 := hw.symm
    rw [show lastI [] = 0 from rfl]
    go_wp2_with fail
    go_ret
    exact ⟨rfl, HKd.out⟩
  · exact absurd (.inl rfl) h0
  · cases h0
end Go.Proofs.YtdbnalocmjkncaaGreatDoor
