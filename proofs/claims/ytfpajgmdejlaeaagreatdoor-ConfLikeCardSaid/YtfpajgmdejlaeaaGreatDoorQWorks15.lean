/-
  The example of the statements about configurations.
-/
import Derived.Test.YtfpajgmdejlaeaaGreatDoorQConfIs
import Derived.Test.YtfpajgmdejlaeaaGreatDoorQErrL
import Derived.Test.YtfpajgmdejlaeaaGreatDoorQConfFn
namespace Go.Proofs.YtfpajgmdejlaeaaGreatDoor
open Go.RowKit Go.Maps

def txA : List UInt8 := [100, 101, 102, 97, 117, 108, 116, 32, 123, 32, 108, 105, 110, 101, 115, 32, 53, 59, 32, 125, 10, 99, 111, 110, 115, 111, 108, 101, 32, 97, 32, 123, 32, 114, 101, 116, 114, 121, 32, 50, 32, 57, 32, 48, 59, 32, 105, 110, 105, 116, 32, 34, 120, 92, 92, 100, 34, 59, 32, 125, 10, 99, 111, 110, 115, 111, 108, 101, 32, 98, 32, 123, 32, 108, 105, 107, 101, 32, 97, 59, 32, 107, 105, 110, 100, 32, 112, 116, 121, 59, 32, 125, 10, 103, 114, 111, 117, 112, 32, 97, 108, 108, 32, 42, 59, 10, 117, 115, 101, 114, 32, 97, 110, 110, 32, 115, 101, 99, 114, 101, 116, 59, 10, 97, 99, 99, 101, 115, 115, 32, 42, 32, 97, 110, 110, 32, 99, 104, 105, 101, 102, 59, 10, 98, 114, 101, 97, 107, 32, 49, 32, 34, 92, 92, 122, 34, 59]
def txB : List UInt8 := [99, 111, 110, 115, 111, 108, 101, 32, 97, 32, 123, 10, 32, 108, 105, 110, 101, 115, 32, 48, 59, 10, 125]
def txC : List UInt8 := [99, 111, 110, 115, 111, 108, 101, 32, 97, 32, 123, 125, 10, 99, 111, 110, 115, 111, 108, 101, 32, 97, 32, 123, 125]
def txD : List UInt8 := [99, 111, 110, 115, 111, 108, 101, 32, 98, 32, 123, 32, 108, 105, 107, 101, 32, 97, 59, 32, 125]
def cfW : Cf := ⟨[⟨⟨#[97]⟩, 1, 5, 4096, 3, 4096, 2, 9, 0, ⟨#[120, 92, 100]⟩⟩, ⟨⟨#[98]⟩, 2, 5, 4096, 3, 4096, 2, 9, 0, ⟨#[120, 92, 100]⟩⟩], [⟨⟨#[97, 108, 108]⟩, [⟨#[42]⟩]⟩], [⟨⟨#[97, 110, 110]⟩, ⟨#[115, 101, 99, 114, 101, 116]⟩⟩], [⟨⟨#[42]⟩, ⟨#[97, 110, 110]⟩, 3⟩], [⟨#[]⟩, ⟨#[92, 122]⟩, ⟨#[]⟩, ⟨#[]⟩, ⟨#[]⟩, ⟨#[]⟩, ⟨#[]⟩, ⟨#[]⟩, ⟨#[]⟩, ⟨#[]⟩]⟩
theorem loadA : loadS txA = .inr cfW := by kernel_rfl
theorem loadB : loadS txB = .inl (2, 2) := by kernel_rfl
theorem loadC : loadS txC = .inl (8, 2) := by kernel_rfl
theorem loadD : loadS txD = .inl (7, 1) := by kernel_rfl
theorem isW : isC cfW = true := by kernel_rfl
theorem findB : findC cfW.cons ⟨#[98]⟩ = some 1 := by kernel_rfl
theorem findX : findC cfW.cons ⟨#[120]⟩ = none := by kernel_rfl
theorem costW : costL (nodesC cfW) 0 ≤ 100000 := Nat.le_of_ble_eq_true (by kernel_rfl)
theorem fineW : CfFine cfW := by
  refine ⟨⟨by decide, by decide, by decide, by decide, by decide⟩, by decide, by decide, ?_, Nat.le_trans costW (by omega)⟩
  have hg := load_good loadA
  exact fine_good hg
/-- what was loaded, where it stands: the second console, the access's level -/
theorem memW {w : World} {B : Nat} {cv gv uv av : Value} {b0 b1 b2 b3 b4 b5 b6 b7 b8 b9 : ByteArray} (h : CfOwn w B cv gv uv av b0 b1 b2 b3 b4 b5 b6 b7 b8 b9 cfW) :
    ∃ g1 c1 a2 c2 a3 c3 g4 c4, cv = .slice (some ⟨g1, 0, none⟩) 2 c1 ∧ gv = .slice a2 1 c2 ∧ uv = .slice a3 1 c3 ∧ av = .slice (some ⟨g4, 0, none⟩) 1 c4 ∧ b1 = ⟨#[92, 122]⟩ ∧
      (∀ (j : Nat) (v : Value), (conR (cfW.cons.getD 1 usual0))[j]? = some v → w.cell? ⟨g1, 10 + j, none⟩ = some v) ∧ w.cell? ⟨g4, 2, none⟩ = some (.int .i64 3) ∧ g1 < w.heap.size ∧ g4 < w.heap.size := by
  obtain ⟨a1, c1, e1, -, -, k1, k1'⟩ := h.cons.shape conR_len
  obtain ⟨rs, hg, hl, -⟩ := h.grps
  obtain ⟨a2, c2, e2⟩ := hg.sl
  obtain ⟨a3, c3, e3⟩ := h.usrs.sl
  obtain ⟨a4, c4, e4, -, -, k4, k4'⟩ := h.accs.shape accR_len
  obtain ⟨g1, rfl, -, hl1, -⟩ := k1 (by decide)
  obtain ⟨g4, rfl, -, hl4, -⟩ := k4 (by decide)
  have hb := h.brk
  refine ⟨g1, c1, a2, c2, a3, c3, g4, c4, e1, by rw [e2, ← hl]; rfl, e3, e4, ?_, fun j v hv => ?_, ?_, hl1, hl4⟩
  · have : [b0, b1, b2, b3, b4, b5, b6, b7, b8, b9][1]? = some ⟨#[92, 122]⟩ := by rw [← hb]; rfl
    injection this
  · have := (k1' g1 rfl 1 (cfW.cons.getD 1 usual0) j v rfl hv).1
    exact this
  · exact (k4' g4 rfl 0 (cfW.accs.getD 0 default) 2 _ rfl rfl).1
set_option maxRecDepth 100000 in
set_option maxHeartbeats 4000000 in
theorem works15 (w : World) (hg : Ety w) : Calls Tryz.prog 6 #[] w fun e w' => e = .returned (.bool true) ∧ Keeps (fun _ => False) w w' := by
  have R1 := Lib.hid (fun W => load_any W (str txA) (by decide))
  have R2 := Lib.hid (fun W => load_any W (str txB) (by decide))
  have R3 := Lib.hid (fun W => load_any W (str txC) (by decide))
  have R4 := Lib.hid (fun W => load_any W (str txD) (by decide))
  have HG := Lib.hid (fun W (k : Keeps (fun _ => False) w W) => Ety.keeps hg k id)
  clear hg
  go_enter Tryz.func6, Tryz.ntmps6
  go_wp2_with fail
  refine (R1.out _).mono ?_
  rintro e w1 hL
  obtain ⟨cv, gv, uv, av, b0, b1, b2, b3, b4, b5, b6, b7, b8, b9, rfl, hown, -, -, -, -⟩ := hL.1 cfW loadA
  obtain ⟨g1, c1, a2, c2, a3, c3, g4, c4, rfl, rfl, rfl, rfl, rfl, m1, m4, l1, l4⟩ := memW hown
  have HK1 := Lib.hid hL.2.2
  have HOW := Lib.hid hown
  have HM1 := Lib.hid m1
  have HM4 := Lib.hid m4
  clear hL hown m1 m4
  simp only [cfL]
  go_upto_region 2 with (fail)
  obtain ⟨wx, hwx⟩ : ∃ wx, wx = w1.alloc (.cells #[.slice (some ⟨g1, 0, none⟩) 2 c1, .slice a2 1 c2, .slice a3 1 c3, .slice (some ⟨g4, 0, none⟩) 1 c4, .string b0, .string ⟨#[92, 122]⟩, .string b2, .string b3, .string b4, .string b5, .string b6, .string b7, .string b8, .string b9] 29) := ⟨_, rfl⟩
  have hkx : Keeps (fun _ => False) w1 wx := by rw [hwx]; exact (Keeps.refl _ _).alloc _
  have hbx : Blk wx w1.heap.size 29 #[.slice (some ⟨g1, 0, none⟩) 2 c1, .slice a2 1 c2, .slice a3 1 c3, .slice (some ⟨g4, 0, none⟩) 1 c4, .string b0, .string ⟨#[92, 122]⟩, .string b2, .string b3, .string b4, .string b5, .string b6, .string b7, .string b8, .string b9] := by rw [hwx]; exact Blk.new _ _ _
  have HKX := Lib.hid hkx
  have HBX := Lib.hid hbx
  have hsx : w1.heap.size < wx.heap.size := hbx.lt
  rw [← hwx]
  clear hwx hkx hbx
  go_wp2_with fail
  refine (R2.out _).mono ?_
  rintro e w2 hL
  obtain ⟨v2, ch2, rfl, hc2, hl2⟩ := hL.2.1 2 2 loadB
  obtain ⟨t2, x2, rfl⟩ := hc2.form
  have HK2 := Lib.hid hL.2.2
  have HC2 := Lib.hid hc2
  have HL2 := Lib.hid hl2
  clear hL hc2 hl2
  simp only [cfL, noV]
  go_upto_region 3 with (fail)
  obtain ⟨wy, hwy⟩ : ∃ wy, wy = w2.alloc (.cells #[.slice none 0 0, .slice none 0 0, .slice none 0 0, .slice none 0 0, .string ⟨#[]⟩, .string ⟨#[]⟩, .string ⟨#[]⟩, .string ⟨#[]⟩, .string ⟨#[]⟩, .string ⟨#[]⟩, .string ⟨#[]⟩, .string ⟨#[]⟩, .string ⟨#[]⟩, .string ⟨#[]⟩] 29) := ⟨_, rfl⟩
  have HKY := Lib.hid (show Keeps (fun _ => False) w2 wy by rw [hwy]; exact (Keeps.refl _ _).alloc _)
  rw [← hwy]
  clear hwy
  go_wp2_with fail
  refine (R3.out _).mono ?_
  rintro e w3 hL
  obtain ⟨v3, ch3, rfl, hc3, hl3⟩ := hL.2.1 8 2 loadC
  obtain ⟨t3, x3, rfl⟩ := hc3.form
  have HK3 := Lib.hid hL.2.2
  have HC3 := Lib.hid hc3
  have HL3 := Lib.hid hl3
  clear hL hc3 hl3
  simp only [cfL, noV]
  go_upto_region 4 with (fail)
  obtain ⟨wz, hwz⟩ : ∃ wz, wz = w3.alloc (.cells #[.slice none 0 0, .slice none 0 0, .slice none 0 0, .slice none 0 0, .string ⟨#[]⟩, .string ⟨#[]⟩, .string ⟨#[]⟩, .string ⟨#[]⟩, .string ⟨#[]⟩, .string ⟨#[]⟩, .string ⟨#[]⟩, .string ⟨#[]⟩, .string ⟨#[]⟩, .string ⟨#[]⟩] 29) := ⟨_, rfl⟩
  have HKZ := Lib.hid (show Keeps (fun _ => False) w3 wz by rw [hwz]; exact (Keeps.refl _ _).alloc _)
  rw [← hwz]
  clear hwz
  go_wp2_with fail
  refine (R4.out _).mono ?_
  rintro e w4 hL
  obtain ⟨v4, ch4, rfl, hc4, hl4⟩ := hL.2.1 7 1 loadD
  obtain ⟨t4, x4, rfl⟩ := hc4.form
  have HK4 := Lib.hid hL.2.2
  have HC4 := Lib.hid hc4
  clear hL hc4 hl4
  simp only [cfL, noV]
  go_upto_region 5 with (fail)
  obtain ⟨wu, hwu⟩ : ∃ wu, wu = w4.alloc (.cells #[.slice none 0 0, .slice none 0 0, .slice none 0 0, .slice none 0 0, .string ⟨#[]⟩, .string ⟨#[]⟩, .string ⟨#[]⟩, .string ⟨#[]⟩, .string ⟨#[]⟩, .string ⟨#[]⟩, .string ⟨#[]⟩, .string ⟨#[]⟩, .string ⟨#[]⟩, .string ⟨#[]⟩] 29) := ⟨_, rfl⟩
  have HKU := Lib.hid (show Keeps (fun _ => False) w4 wu by rw [hwu]; exact (Keeps.refl _ _).alloc _)
  rw [← hwu]
  clear hwu
  have HKxu : Hid (Keeps (fun _ => False) wx wu) := Lib.hid (HK2.out.trans (HKY.out.trans (HK3.out.trans (HKZ.out.trans (HK4.out.trans HKU.out)))))
  have HK1u : Hid (Keeps (fun _ => False) w1 wu) := Lib.hid (HKX.out.trans HKxu.out)
  have CF : Hid (∀ W, Keeps (fun _ => False) wu W → ∀ i, W.cell? ⟨w1.heap.size, i, none⟩ = #[.slice (some ⟨g1, 0, none⟩) 2 c1, .slice a2 1 c2, .slice a3 1 c3, .slice (some ⟨g4, 0, none⟩) 1 c4, .string b0, .string ⟨#[92, 122]⟩, .string b2, .string b3, .string b4, .string b5, .string b6, .string b7, .string b8, .string b9][i]?) := Lib.hid (fun W k i => (HBX.out.keeps (HKxu.out.trans k) id).cell i)
  have CN : Hid (∀ W, Keeps (fun _ => False) wu W → (∀ (j : Nat) (v : Value), (conR (cfW.cons.getD 1 usual0))[j]? = some v → W.cell? ⟨g1, 10 + j, none⟩ = some v) ∧ W.cell? ⟨g4, 2, none⟩ = some (.int .i64 3)) := Lib.hid (fun W k => ⟨fun j v hv => (World.cell?_of_block (w := w1) ((HK1u.out.trans k).block g1 l1 id)).trans (HM1.out j v hv), (World.cell?_of_block (w := w1) ((HK1u.out.trans k).block g4 l4 id)).trans HM4.out⟩)
  have y0 : wu.cell? ⟨w1.heap.size, 0, none⟩ = some (.slice (some ⟨g1, 0, none⟩) 2 c1) := CF.out wu (Keeps.refl _ _) 0
  have y1 : wu.cell? ⟨w1.heap.size, 1, none⟩ = some (.slice a2 1 c2) := CF.out wu (Keeps.refl _ _) 1
  have y2 : wu.cell? ⟨w1.heap.size, 2, none⟩ = some (.slice a3 1 c3) := CF.out wu (Keeps.refl _ _) 2
  have y3 : wu.cell? ⟨w1.heap.size, 3, none⟩ = some (.slice (some ⟨g4, 0, none⟩) 1 c4) := CF.out wu (Keeps.refl _ _) 3
  have y4 : wu.cell? ⟨w1.heap.size, 4, none⟩ = some (.string b0) := CF.out wu (Keeps.refl _ _) 4
  have y5 : wu.cell? ⟨w1.heap.size, 5, none⟩ = some (.string ⟨#[92, 122]⟩) := CF.out wu (Keeps.refl _ _) 5
  have y6 : wu.cell? ⟨w1.heap.size, 6, none⟩ = some (.string b2) := CF.out wu (Keeps.refl _ _) 6
  have y7 : wu.cell? ⟨w1.heap.size, 7, none⟩ = some (.string b3) := CF.out wu (Keeps.refl _ _) 7
  have y8 : wu.cell? ⟨w1.heap.size, 8, none⟩ = some (.string b4) := CF.out wu (Keeps.refl _ _) 8
  have y9 : wu.cell? ⟨w1.heap.size, 9, none⟩ = some (.string b5) := CF.out wu (Keeps.refl _ _) 9
  have y10 : wu.cell? ⟨w1.heap.size, 10, none⟩ = some (.string b6) := CF.out wu (Keeps.refl _ _) 10
  have y11 : wu.cell? ⟨w1.heap.size, 11, none⟩ = some (.string b7) := CF.out wu (Keeps.refl _ _) 11
  have y12 : wu.cell? ⟨w1.heap.size, 12, none⟩ = some (.string b8) := CF.out wu (Keeps.refl _ _) 12
  have y13 : wu.cell? ⟨w1.heap.size, 13, none⟩ = some (.string b9) := CF.out wu (Keeps.refl _ _) 13
  have n0 : wu.cell? ⟨g1, 10, none⟩ = some (.string ⟨#[98]⟩) := (CN.out wu (Keeps.refl _ _)).1 0 _ rfl
  have n1 : wu.cell? ⟨g1, 10 + 1, none⟩ = some (.int .i64 2) := (CN.out wu (Keeps.refl _ _)).1 1 _ rfl
  have n2 : wu.cell? ⟨g1, 10 + 2, none⟩ = some (.int .i64 5) := (CN.out wu (Keeps.refl _ _)).1 2 _ rfl
  have n3 : wu.cell? ⟨g1, 10 + 3, none⟩ = some (.int .i64 4096) := (CN.out wu (Keeps.refl _ _)).1 3 _ rfl
  have n4 : wu.cell? ⟨g1, 10 + 4, none⟩ = some (.int .i64 3) := (CN.out wu (Keeps.refl _ _)).1 4 _ rfl
  have n5 : wu.cell? ⟨g1, 10 + 5, none⟩ = some (.int .i64 4096) := (CN.out wu (Keeps.refl _ _)).1 5 _ rfl
  have n6 : wu.cell? ⟨g1, 10 + 6, none⟩ = some (.int .i64 2) := (CN.out wu (Keeps.refl _ _)).1 6 _ rfl
  have n7 : wu.cell? ⟨g1, 10 + 7, none⟩ = some (.int .i64 9) := (CN.out wu (Keeps.refl _ _)).1 7 _ rfl
  have n8 : wu.cell? ⟨g1, 10 + 8, none⟩ = some (.int .i64 0) := (CN.out wu (Keeps.refl _ _)).1 8 _ rfl
  have n9 : wu.cell? ⟨g1, 10 + 9, none⟩ = some (.string ⟨#[120, 92, 100]⟩) := (CN.out wu (Keeps.refl _ _)).1 9 _ rfl
  have n10 : wu.cell? ⟨g4, 2, none⟩ = some (.int .i64 3) := (CN.out wu (Keeps.refl _ _)).2
  go_upto_region 8 with (fail)
  obtain ⟨wv, hwv⟩ : ∃ wv, wv = wu.alloc (.cells #[.string ⟨#[98]⟩, .int .i64 2, .int .i64 5, .int .i64 4096, .int .i64 3, .int .i64 4096, .int .i64 2, .int .i64 9, .int .i64 0, .string ⟨#[120, 92, 100]⟩] 42) := ⟨_, rfl⟩
  have hkv : Keeps (fun _ => False) wu wv := by rw [hwv]; exact (Keeps.refl _ _).alloc _
  have hbv : Blk wv wu.heap.size 42 #[.string ⟨#[98]⟩, .int .i64 2, .int .i64 5, .int .i64 4096, .int .i64 3, .int .i64 4096, .int .i64 2, .int .i64 9, .int .i64 0, .string ⟨#[120, 92, 100]⟩] := by rw [hwv]; exact Blk.new _ _ _
  have q0 : wv.cell? ⟨wu.heap.size, 0, none⟩ = some (.string ⟨#[98]⟩) := hbv.cell 0
  have q1 : wv.cell? ⟨wu.heap.size, 1, none⟩ = some (.int .i64 2) := hbv.cell 1
  have q2 : wv.cell? ⟨wu.heap.size, 2, none⟩ = some (.int .i64 5) := hbv.cell 2
  have q3 : wv.cell? ⟨wu.heap.size, 3, none⟩ = some (.int .i64 4096) := hbv.cell 3
  have q4 : wv.cell? ⟨wu.heap.size, 4, none⟩ = some (.int .i64 3) := hbv.cell 4
  have q5 : wv.cell? ⟨wu.heap.size, 5, none⟩ = some (.int .i64 4096) := hbv.cell 5
  have q6 : wv.cell? ⟨wu.heap.size, 6, none⟩ = some (.int .i64 2) := hbv.cell 6
  have q7 : wv.cell? ⟨wu.heap.size, 7, none⟩ = some (.int .i64 9) := hbv.cell 7
  have q8 : wv.cell? ⟨wu.heap.size, 8, none⟩ = some (.int .i64 0) := hbv.cell 8
  have q9 : wv.cell? ⟨wu.heap.size, 9, none⟩ = some (.string ⟨#[120, 92, 100]⟩) := hbv.cell 9
  have p0 : wv.cell? ⟨w1.heap.size, 0, none⟩ = some (.slice (some ⟨g1, 0, none⟩) 2 c1) := CF.out wv hkv 0
  have p1 : wv.cell? ⟨w1.heap.size, 1, none⟩ = some (.slice a2 1 c2) := CF.out wv hkv 1
  have p2 : wv.cell? ⟨w1.heap.size, 2, none⟩ = some (.slice a3 1 c3) := CF.out wv hkv 2
  have p3 : wv.cell? ⟨w1.heap.size, 3, none⟩ = some (.slice (some ⟨g4, 0, none⟩) 1 c4) := CF.out wv hkv 3
  have p4 : wv.cell? ⟨w1.heap.size, 4, none⟩ = some (.string b0) := CF.out wv hkv 4
  have p5 : wv.cell? ⟨w1.heap.size, 5, none⟩ = some (.string ⟨#[92, 122]⟩) := CF.out wv hkv 5
  have p6 : wv.cell? ⟨w1.heap.size, 6, none⟩ = some (.string b2) := CF.out wv hkv 6
  have p7 : wv.cell? ⟨w1.heap.size, 7, none⟩ = some (.string b3) := CF.out wv hkv 7
  have p8 : wv.cell? ⟨w1.heap.size, 8, none⟩ = some (.string b4) := CF.out wv hkv 8
  have p9 : wv.cell? ⟨w1.heap.size, 9, none⟩ = some (.string b5) := CF.out wv hkv 9
  have p10 : wv.cell? ⟨w1.heap.size, 10, none⟩ = some (.string b6) := CF.out wv hkv 10
  have p11 : wv.cell? ⟨w1.heap.size, 11, none⟩ = some (.string b7) := CF.out wv hkv 11
  have p12 : wv.cell? ⟨w1.heap.size, 12, none⟩ = some (.string b8) := CF.out wv hkv 12
  have p13 : wv.cell? ⟨w1.heap.size, 13, none⟩ = some (.string b9) := CF.out wv hkv 13
  have p20 : wv.cell? ⟨g4, 2, none⟩ = some (.int .i64 3) := (CN.out wv hkv).2
  have HKV := Lib.hid hkv
  rw [← hwv]
  clear hwv hkv hbv
  have HCH2 : Hid (∀ W, Keeps (fun _ => False) wu W → Chain W ch2 2 (.iface t2 x2)) := Lib.hid (fun W k => HC2.out.keeps ((HKY.out.trans (HK3.out.trans (HKZ.out.trans (HK4.out.trans HKU.out)))).trans k) (fun _ _ _ => id))
  have HCH3 : Hid (∀ W, Keeps (fun _ => False) wu W → Chain W ch3 8 (.iface t3 x3)) := Lib.hid (fun W k => HC3.out.keeps ((HKZ.out.trans (HK4.out.trans HKU.out)).trans k) (fun _ _ _ => id))
  have HCH4 : Hid (∀ W, Keeps (fun _ => False) wu W → Chain W ch4 7 (.iface t4 x4)) := Lib.hid (fun W k => HC4.out.keeps (HKU.out.trans k) (fun _ _ _ => id))
  have HGU : Hid (∀ W, Keeps (fun _ => False) wu W → Ety W) := Lib.hid (fun W k => HG.out W (HK1.out.trans (HK1u.out.trans k)))
  go_wp2_with fail
  refine (of_chain wv ch2 2 _ (HCH2.out wv HKV.out) (HGU.out wv HKV.out)).mono ?_
  rintro e w5 ⟨rfl, k5⟩
  have HK5 := Lib.hid (HKV.out.trans k5)
  clear k5
  go_wp2_with fail
  refine (line_chain w5 ch2 2 _ (HCH2.out w5 HK5.out) (HGU.out w5 HK5.out)).mono ?_
  rintro e w6 ⟨rfl, k6⟩
  rw [HL2.out]
  have HK6 := Lib.hid (HK5.out.trans k6)
  clear k6
  go_wp2_with fail
  refine (of_chain w6 ch3 8 _ (HCH3.out w6 HK6.out) (HGU.out w6 HK6.out)).mono ?_
  rintro e w7 ⟨rfl, k7⟩
  have HK7 := Lib.hid (HK6.out.trans k7)
  clear k7
  go_wp2_with fail
  refine (line_chain w7 ch3 8 _ (HCH3.out w7 HK7.out) (HGU.out w7 HK7.out)).mono ?_
  rintro e w8 ⟨rfl, k8⟩
  rw [HL3.out]
  have HK8 := Lib.hid (HK7.out.trans k8)
  clear k8
  go_wp2_with fail
  refine (of_chain w8 ch4 7 _ (HCH4.out w8 HK8.out) (HGU.out w8 HK8.out)).mono ?_
  rintro e w9 ⟨rfl, k9⟩
  have HK9 := Lib.hid (HK8.out.trans k9)
  clear k9
  have r0 : w9.cell? ⟨w1.heap.size, 0, none⟩ = some (.slice (some ⟨g1, 0, none⟩) 2 c1) := CF.out w9 HK9.out 0
  have r1 : w9.cell? ⟨w1.heap.size, 1, none⟩ = some (.slice a2 1 c2) := CF.out w9 HK9.out 1
  have r2 : w9.cell? ⟨w1.heap.size, 2, none⟩ = some (.slice a3 1 c3) := CF.out w9 HK9.out 2
  have r3 : w9.cell? ⟨w1.heap.size, 3, none⟩ = some (.slice (some ⟨g4, 0, none⟩) 1 c4) := CF.out w9 HK9.out 3
  have r4 : w9.cell? ⟨w1.heap.size, 4, none⟩ = some (.string b0) := CF.out w9 HK9.out 4
  have r5 : w9.cell? ⟨w1.heap.size, 5, none⟩ = some (.string ⟨#[92, 122]⟩) := CF.out w9 HK9.out 5
  have r6 : w9.cell? ⟨w1.heap.size, 6, none⟩ = some (.string b2) := CF.out w9 HK9.out 6
  have r7 : w9.cell? ⟨w1.heap.size, 7, none⟩ = some (.string b3) := CF.out w9 HK9.out 7
  have r8 : w9.cell? ⟨w1.heap.size, 8, none⟩ = some (.string b4) := CF.out w9 HK9.out 8
  have r9 : w9.cell? ⟨w1.heap.size, 9, none⟩ = some (.string b5) := CF.out w9 HK9.out 9
  have r10 : w9.cell? ⟨w1.heap.size, 10, none⟩ = some (.string b6) := CF.out w9 HK9.out 10
  have r11 : w9.cell? ⟨w1.heap.size, 11, none⟩ = some (.string b7) := CF.out w9 HK9.out 11
  have r12 : w9.cell? ⟨w1.heap.size, 12, none⟩ = some (.string b8) := CF.out w9 HK9.out 12
  have r13 : w9.cell? ⟨w1.heap.size, 13, none⟩ = some (.string b9) := CF.out w9 HK9.out 13
  have HAT : Hid (∀ W, Keeps (fun _ => False) wu W → CfAt (fun i => w.heap.size ≤ i ∧ i < w1.heap.size) W (.slice (some ⟨g1, 0, none⟩) 2 c1) (.slice a2 1 c2) (.slice a3 1 c3) (.slice (some ⟨g4, 0, none⟩) 1 c4) cfW) := Lib.hid (fun W k => HOW.out.at_.keeps (HK1u.out.trans k) (fun _ _ _ => id))
  have HSL : Hid (∀ W, Keeps (fun _ => False) wu W → SlAt conR 10 W (some ⟨g1, 0, none⟩) 2 cfW.cons) := Lib.hid (fun W k => by
    obtain ⟨a', c', e', h1, -⟩ := (HAT.out W k).cons
    injection e' with e1 _ _
    subst e1
    exact h1)
  go_wp2_with fail
  refine (find_any w9 (some ⟨g1, 0, none⟩) 2 c1 (.slice a2 1 c2) (.slice a3 1 c3) (.slice (some ⟨g4, 0, none⟩) 1 c4) b0 ⟨#[92, 122]⟩ b2 b3 b4 b5 b6 b7 b8 b9 cfW.cons ⟨#[98]⟩ (HSL.out w9 HK9.out) (by omega)).mono ?_
  rintro e w10 ⟨rfl, k10⟩
  rw [findB]
  simp only [idxV]
  have HK10 := Lib.hid (HK9.out.trans k10)
  clear k10
  have s0 : w10.cell? ⟨w1.heap.size, 0, none⟩ = some (.slice (some ⟨g1, 0, none⟩) 2 c1) := CF.out w10 HK10.out 0
  have s1 : w10.cell? ⟨w1.heap.size, 1, none⟩ = some (.slice a2 1 c2) := CF.out w10 HK10.out 1
  have s2 : w10.cell? ⟨w1.heap.size, 2, none⟩ = some (.slice a3 1 c3) := CF.out w10 HK10.out 2
  have s3 : w10.cell? ⟨w1.heap.size, 3, none⟩ = some (.slice (some ⟨g4, 0, none⟩) 1 c4) := CF.out w10 HK10.out 3
  have s4 : w10.cell? ⟨w1.heap.size, 4, none⟩ = some (.string b0) := CF.out w10 HK10.out 4
  have s5 : w10.cell? ⟨w1.heap.size, 5, none⟩ = some (.string ⟨#[92, 122]⟩) := CF.out w10 HK10.out 5
  have s6 : w10.cell? ⟨w1.heap.size, 6, none⟩ = some (.string b2) := CF.out w10 HK10.out 6
  have s7 : w10.cell? ⟨w1.heap.size, 7, none⟩ = some (.string b3) := CF.out w10 HK10.out 7
  have s8 : w10.cell? ⟨w1.heap.size, 8, none⟩ = some (.string b4) := CF.out w10 HK10.out 8
  have s9 : w10.cell? ⟨w1.heap.size, 9, none⟩ = some (.string b5) := CF.out w10 HK10.out 9
  have s10 : w10.cell? ⟨w1.heap.size, 10, none⟩ = some (.string b6) := CF.out w10 HK10.out 10
  have s11 : w10.cell? ⟨w1.heap.size, 11, none⟩ = some (.string b7) := CF.out w10 HK10.out 11
  have s12 : w10.cell? ⟨w1.heap.size, 12, none⟩ = some (.string b8) := CF.out w10 HK10.out 12
  have s13 : w10.cell? ⟨w1.heap.size, 13, none⟩ = some (.string b9) := CF.out w10 HK10.out 13
  go_wp2_with fail
  refine (find_any w10 (some ⟨g1, 0, none⟩) 2 c1 (.slice a2 1 c2) (.slice a3 1 c3) (.slice (some ⟨g4, 0, none⟩) 1 c4) b0 ⟨#[92, 122]⟩ b2 b3 b4 b5 b6 b7 b8 b9 cfW.cons ⟨#[120]⟩ (HSL.out w10 HK10.out) (by omega)).mono ?_
  rintro e w11 ⟨rfl, k11⟩
  rw [findX]
  simp only [idxV]
  have HK11 := Lib.hid (HK10.out.trans k11)
  clear k11
  have t0 : w11.cell? ⟨w1.heap.size, 0, none⟩ = some (.slice (some ⟨g1, 0, none⟩) 2 c1) := CF.out w11 HK11.out 0
  have t1 : w11.cell? ⟨w1.heap.size, 1, none⟩ = some (.slice a2 1 c2) := CF.out w11 HK11.out 1
  have t2 : w11.cell? ⟨w1.heap.size, 2, none⟩ = some (.slice a3 1 c3) := CF.out w11 HK11.out 2
  have t3 : w11.cell? ⟨w1.heap.size, 3, none⟩ = some (.slice (some ⟨g4, 0, none⟩) 1 c4) := CF.out w11 HK11.out 3
  have t4 : w11.cell? ⟨w1.heap.size, 4, none⟩ = some (.string b0) := CF.out w11 HK11.out 4
  have t5 : w11.cell? ⟨w1.heap.size, 5, none⟩ = some (.string ⟨#[92, 122]⟩) := CF.out w11 HK11.out 5
  have t6 : w11.cell? ⟨w1.heap.size, 6, none⟩ = some (.string b2) := CF.out w11 HK11.out 6
  have t7 : w11.cell? ⟨w1.heap.size, 7, none⟩ = some (.string b3) := CF.out w11 HK11.out 7
  have t8 : w11.cell? ⟨w1.heap.size, 8, none⟩ = some (.string b4) := CF.out w11 HK11.out 8
  have t9 : w11.cell? ⟨w1.heap.size, 9, none⟩ = some (.string b5) := CF.out w11 HK11.out 9
  have t10 : w11.cell? ⟨w1.heap.size, 10, none⟩ = some (.string b6) := CF.out w11 HK11.out 10
  have t11 : w11.cell? ⟨w1.heap.size, 11, none⟩ = some (.string b7) := CF.out w11 HK11.out 11
  have t12 : w11.cell? ⟨w1.heap.size, 12, none⟩ = some (.string b8) := CF.out w11 HK11.out 12
  have t13 : w11.cell? ⟨w1.heap.size, 13, none⟩ = some (.string b9) := CF.out w11 HK11.out 13
  go_wp2_with fail
  refine (cis_any w11 (fun i => w.heap.size ≤ i ∧ i < w1.heap.size) (.slice (some ⟨g1, 0, none⟩) 2 c1) (.slice a2 1 c2) (.slice a3 1 c3) (.slice (some ⟨g4, 0, none⟩) 1 c4) b0 ⟨#[92, 122]⟩ b2 b3 b4 b5 b6 b7 b8 b9 cfW (HAT.out w11 HK11.out) HOW.out.brk (fun i hi => by have := HK11.out.size; have := HK1u.out.size; have := hi.2; omega) fineW).mono ?_
  rintro e w12 ⟨rfl, k12⟩
  rw [isW]
  have HK12 := Lib.hid (HK1.out.trans (HK1u.out.trans (HK11.out.trans k12)))
  clear k12
  go_wp2_with fail
  go_ret
  exact ⟨rfl, HK12.out⟩
end Go.Proofs.YtfpajgmdejlaeaaGreatDoor
