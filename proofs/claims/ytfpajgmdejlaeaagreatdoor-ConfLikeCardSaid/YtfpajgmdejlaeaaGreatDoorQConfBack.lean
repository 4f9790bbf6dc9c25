/-
  ConfBack returns true, whatever its argument: the walk.
-/
import Derived.Test.YtfpajgmdejlaeaaGreatDoorQWorks15
import Derived.Test.YtfpajgmdejlaeaaGreatDoorQRef15S
import Derived.Test.YtfpajgmdejlaeaaGreatDoorQConfFm
namespace Go.Proofs.YtfpajgmdejlaeaaGreatDoor
open Go.RowKit Go.Maps

theorem CfAt.empty_ (S : Nat → Prop) (w : World) : CfAt S w (.slice none 0 0) (.slice none 0 0) (.slice none 0 0) (.slice none 0 0) Cf.empty :=
  ⟨⟨none, 0, rfl, ⟨rfl, fun h => absurd h (by decide)⟩, fun h => absurd h (by decide)⟩, ⟨[], ⟨none, 0, rfl, ⟨rfl, fun h => absurd h (by decide)⟩, fun h => absurd h (by decide)⟩, rfl, fun i x r hx _ => by simp [Cf.empty] at hx⟩, ⟨none, 0, rfl, ⟨rfl, fun h => absurd h (by decide)⟩, fun h => absurd h (by decide)⟩, ⟨none, 0, rfl, ⟨rfl, fun h => absurd h (by decide)⟩, fun h => absurd h (by decide)⟩⟩
theorem isC_good {c : Cf} (h : loadS (printC c) = .inr c) : isC c = true := by
  unfold isC
  rw [h]
  exact sameC_iff.2 rfl
/-- a configuration's values, in few words -/
structure CfV (w : World) (b : Nat) (cs : Array Value) (S : Nat → Prop) (cv gv uv av : Value) (b0 b1 b2 b3 b4 b5 b6 b7 b8 b9 : ByteArray) (c : Cf) : Prop where
  blk : Blk w b 29 cs
  at_ : CfAt S w cv gv uv av c
  lt : ∀ i, S i → i < w.heap.size
  brk : c.brks = [b0, b1, b2, b3, b4, b5, b6, b7, b8, b9]
theorem CfV.keeps {w w' : World} {b : Nat} {cs : Array Value} {S : Nat → Prop} {cv gv uv av : Value} {b0 b1 b2 b3 b4 b5 b6 b7 b8 b9 : ByteArray} {c : Cf} (h : CfV w b cs S cv gv uv av b0 b1 b2 b3 b4 b5 b6 b7 b8 b9 c) (k : Keeps (fun _ => False) w w') : CfV w' b cs S cv gv uv av b0 b1 b2 b3 b4 b5 b6 b7 b8 b9 c :=
  ⟨h.blk.keeps k id, h.at_.keeps k (fun _ _ _ => id), fun i hi => Nat.lt_of_lt_of_le (h.lt i hi) k.size, h.brk⟩
/-- what was loaded lies in the variable's block -/
theorem CfOwn.open_ {w : World} {B : Nat} {cv gv uv av : Value} {b0 b1 b2 b3 b4 b5 b6 b7 b8 b9 : ByteArray} {c : Cf} (h : CfOwn w B cv gv uv av b0 b1 b2 b3 b4 b5 b6 b7 b8 b9 c) :
    ∃ a1 n1 c1 a2 n2 c2 a3 n3 c3 a4 n4 c4, cv = .slice a1 n1 c1 ∧ gv = .slice a2 n2 c2 ∧ uv = .slice a3 n3 c3 ∧ av = .slice a4 n4 c4 := by
  obtain ⟨xa1, xc1, hx1⟩ := h.cons.sl
  obtain ⟨rs, hgr, hgl, -⟩ := h.grps
  obtain ⟨xa2, xc2, hx2⟩ := hgr.sl
  obtain ⟨xa3, xc3, hx3⟩ := h.usrs.sl
  obtain ⟨xa4, xc4, hx4⟩ := h.accs.sl
  exact ⟨_, _, _, _, _, _, _, _, _, _, _, _, hx1, hx2, hx3, hx4⟩
set_option maxRecDepth 100000 in
set_option maxHeartbeats 8000000 in
theorem confBack_walk (w : World) (s : ByteArray) (_hs : s.size ≤ maxLen) (hg : Ety w) : Calls Tryz.prog 3 #[.string s] w fun e w' => e = .returned (.bool true) ∧ Keeps (fun _ => False) w w' := by
  have HW := Lib.hid (fun W (k : Keeps (fun _ => False) w W) => works15 W (Ety.keeps hg k id))
  have hsl : s.data.toList.length = s.size := by simp
  clear hg
  by_cases hbig : 3000 < s.size
  · go_enter Tryz.func3, Tryz.ntmps3
    go_wp2_with fail
    refine (HW.out _ (Keeps.refl _ _)).mono ?_
    rintro e w2 ⟨rfl, k2⟩
    go_wp2_with fail
    go_ret
    exact ⟨rfl, k2⟩
  · have hsz : s.size ≤ 3000 := by omega
    have R1 := Lib.hid (fun W => load_any W s (by omega))
    obtain ⟨O, hO⟩ : ∃ O, O = loadS s.data.toList := ⟨_, rfl⟩
    rw [← hO] at R1
    have HO := Lib.hid hO
    clear hO hbig
    cases O with
    | inl er =>
      obtain ⟨cd, n⟩ := er
      have HP := Lib.hid (fun W => cprint_fine W (fun _ => False) (.slice none 0 0) (.slice none 0 0) (.slice none 0 0) (.slice none 0 0) ⟨#[]⟩ ⟨#[]⟩ ⟨#[]⟩ ⟨#[]⟩ ⟨#[]⟩ ⟨#[]⟩ ⟨#[]⟩ ⟨#[]⟩ ⟨#[]⟩ ⟨#[]⟩ Cf.empty (CfAt.empty_ _ _) rfl (fun _ h => h.elim) empty_good.fine)
      simp only [cfL] at HP
      go_enter Tryz.func3, Tryz.ntmps3
      go_wp2_with fail
      refine (R1.out _).mono ?_
      rintro e w1 hL
      obtain ⟨v, ch, rfl, hch, -⟩ := hL.2.1 cd n rfl
      obtain ⟨ty, x, rfl⟩ := hch.form
      have HK1 := Lib.hid hL.2.2
      clear hL hch
      simp only [cfL, noV]
      go_upto_region 4 with (fail)
      obtain ⟨wx, hwx⟩ : ∃ wx, wx = w1.alloc (.cells #[.slice none 0 0, .slice none 0 0, .slice none 0 0, .slice none 0 0, .string ⟨#[]⟩, .string ⟨#[]⟩, .string ⟨#[]⟩, .string ⟨#[]⟩, .string ⟨#[]⟩, .string ⟨#[]⟩, .string ⟨#[]⟩, .string ⟨#[]⟩, .string ⟨#[]⟩, .string ⟨#[]⟩] 29) := ⟨_, rfl⟩
      have hkx : Keeps (fun _ => False) w1 wx := by rw [hwx]; exact (Keeps.refl _ _).alloc _
      have hbx : Blk wx w1.heap.size 29 #[.slice none 0 0, .slice none 0 0, .slice none 0 0, .slice none 0 0, .string ⟨#[]⟩, .string ⟨#[]⟩, .string ⟨#[]⟩, .string ⟨#[]⟩, .string ⟨#[]⟩, .string ⟨#[]⟩, .string ⟨#[]⟩, .string ⟨#[]⟩, .string ⟨#[]⟩, .string ⟨#[]⟩] := by rw [hwx]; exact Blk.new _ _ _
      have x0 : wx.cell? ⟨w1.heap.size, 0, none⟩ = some (.slice none 0 0) := hbx.cell 0
      have x1 : wx.cell? ⟨w1.heap.size, 1, none⟩ = some (.slice none 0 0) := hbx.cell 1
      have x2 : wx.cell? ⟨w1.heap.size, 2, none⟩ = some (.slice none 0 0) := hbx.cell 2
      have x3 : wx.cell? ⟨w1.heap.size, 3, none⟩ = some (.slice none 0 0) := hbx.cell 3
      have x4 : wx.cell? ⟨w1.heap.size, 4, none⟩ = some (.string ⟨#[]⟩) := hbx.cell 4
      have x5 : wx.cell? ⟨w1.heap.size, 5, none⟩ = some (.string ⟨#[]⟩) := hbx.cell 5
      have x6 : wx.cell? ⟨w1.heap.size, 6, none⟩ = some (.string ⟨#[]⟩) := hbx.cell 6
      have x7 : wx.cell? ⟨w1.heap.size, 7, none⟩ = some (.string ⟨#[]⟩) := hbx.cell 7
      have x8 : wx.cell? ⟨w1.heap.size, 8, none⟩ = some (.string ⟨#[]⟩) := hbx.cell 8
      have x9 : wx.cell? ⟨w1.heap.size, 9, none⟩ = some (.string ⟨#[]⟩) := hbx.cell 9
      have x10 : wx.cell? ⟨w1.heap.size, 10, none⟩ = some (.string ⟨#[]⟩) := hbx.cell 10
      have x11 : wx.cell? ⟨w1.heap.size, 11, none⟩ = some (.string ⟨#[]⟩) := hbx.cell 11
      have x12 : wx.cell? ⟨w1.heap.size, 12, none⟩ = some (.string ⟨#[]⟩) := hbx.cell 12
      have x13 : wx.cell? ⟨w1.heap.size, 13, none⟩ = some (.string ⟨#[]⟩) := hbx.cell 13
      have HKX := Lib.hid (HK1.out.trans hkx)
      rw [← hwx]
      clear hwx hkx hbx
      go_wp2_with fail
      refine (HP.out _).mono ?_
      rintro e w2 ⟨rfl, k2⟩
      have HK2 := Lib.hid (HKX.out.trans k2)
      clear k2
      go_wp2_with fail
      refine (HW.out _ HK2.out).mono ?_
      rintro e w3 ⟨rfl, k3⟩
      have HK3 := Lib.hid (HK2.out.trans k3)
      clear k3
      go_wp2_with fail
      go_ret
      exact ⟨rfl, HK3.out⟩
    | inr c =>
      have hcg : CfG c := load_good HO.out.symm
      have HCG := Lib.hid hcg
      have HLB := Lib.hid (load_back (s := s.data.toList) (c := c) HO.out.symm (by omega))
      have hpl := printC_len hcg.fine
      obtain ⟨TX, hTX⟩ : ∃ TX, TX = str (printC c) := ⟨_, rfl⟩
      have HTX := Lib.hid hTX
      rw [← hTX] at hpl
      clear hcg hTX
      go_enter Tryz.func3, Tryz.ntmps3
      go_wp2_with fail
      refine (R1.out _).mono ?_
      rintro e w1 hL
      obtain ⟨cv, gv, uv, av, b0, b1, b2, b3, b4, b5, b6, b7, b8, b9, rfl, hown, -, -, -, -⟩ := hL.1 c rfl
      obtain ⟨a1, n1, c1, a2, n2, c2, a3, n3, c3, a4, n4, c4, rfl, rfl, rfl, rfl⟩ := hown.open_
      have HK1 := Lib.hid hL.2.2
      have HOW := Lib.hid hown
      clear hL hown
      simp only [cfL]
      go_upto_region 4 with (fail)
      obtain ⟨wx, hwx⟩ : ∃ wx, wx = w1.alloc (.cells #[.slice a1 n1 c1, .slice a2 n2 c2, .slice a3 n3 c3, .slice a4 n4 c4, .string b0, .string b1, .string b2, .string b3, .string b4, .string b5, .string b6, .string b7, .string b8, .string b9] 29) := ⟨_, rfl⟩
      have hkx : Keeps (fun _ => False) w1 wx := by rw [hwx]; exact (Keeps.refl _ _).alloc _
      have hbx : Blk wx w1.heap.size 29 #[.slice a1 n1 c1, .slice a2 n2 c2, .slice a3 n3 c3, .slice a4 n4 c4, .string b0, .string b1, .string b2, .string b3, .string b4, .string b5, .string b6, .string b7, .string b8, .string b9] := by rw [hwx]; exact Blk.new _ _ _
      have hv : CfV wx w1.heap.size #[.slice a1 n1 c1, .slice a2 n2 c2, .slice a3 n3 c3, .slice a4 n4 c4, .string b0, .string b1, .string b2, .string b3, .string b4, .string b5, .string b6, .string b7, .string b8, .string b9] (fun i => w.heap.size ≤ i ∧ i < w1.heap.size) (.slice a1 n1 c1) (.slice a2 n2 c2) (.slice a3 n3 c3) (.slice a4 n4 c4) b0 b1 b2 b3 b4 b5 b6 b7 b8 b9 c := ⟨hbx, HOW.out.at_.keeps hkx (fun _ _ _ => id), fun i hi => by have := hbx.lt; omega, HOW.out.brk⟩
      have HV := Lib.hid (fun W (k : Keeps (fun _ => False) wx W) => hv.keeps k)
      have x0 : wx.cell? ⟨w1.heap.size, 0, none⟩ = some (.slice a1 n1 c1) := hbx.cell 0
      have x1 : wx.cell? ⟨w1.heap.size, 1, none⟩ = some (.slice a2 n2 c2) := hbx.cell 1
      have x2 : wx.cell? ⟨w1.heap.size, 2, none⟩ = some (.slice a3 n3 c3) := hbx.cell 2
      have x3 : wx.cell? ⟨w1.heap.size, 3, none⟩ = some (.slice a4 n4 c4) := hbx.cell 3
      have x4 : wx.cell? ⟨w1.heap.size, 4, none⟩ = some (.string b0) := hbx.cell 4
      have x5 : wx.cell? ⟨w1.heap.size, 5, none⟩ = some (.string b1) := hbx.cell 5
      have x6 : wx.cell? ⟨w1.heap.size, 6, none⟩ = some (.string b2) := hbx.cell 6
      have x7 : wx.cell? ⟨w1.heap.size, 7, none⟩ = some (.string b3) := hbx.cell 7
      have x8 : wx.cell? ⟨w1.heap.size, 8, none⟩ = some (.string b4) := hbx.cell 8
      have x9 : wx.cell? ⟨w1.heap.size, 9, none⟩ = some (.string b5) := hbx.cell 9
      have x10 : wx.cell? ⟨w1.heap.size, 10, none⟩ = some (.string b6) := hbx.cell 10
      have x11 : wx.cell? ⟨w1.heap.size, 11, none⟩ = some (.string b7) := hbx.cell 11
      have x12 : wx.cell? ⟨w1.heap.size, 12, none⟩ = some (.string b8) := hbx.cell 12
      have x13 : wx.cell? ⟨w1.heap.size, 13, none⟩ = some (.string b9) := hbx.cell 13
      have HPC := Lib.hid (fun W (k : Keeps (fun _ => False) wx W) => cprint_fine W _ _ _ _ _ _ _ _ _ _ _ _ _ _ _ c (hv.keeps k).at_ (hv.keeps k).brk (hv.keeps k).lt HCG.out.fine)
      simp only [cfL, ← HTX.out] at HPC
      have HKX := Lib.hid (HK1.out.trans hkx)
      rw [← hwx]
      clear hwx hkx hbx hv
      go_wp2_with fail
      refine (HPC.out wx (Keeps.refl _ _)).mono ?_
      rintro e w2 ⟨rfl, k2⟩
      have HK2 := Lib.hid k2
      clear k2
      by_cases hlong : 60000 < TX.size
      · go_wp2_with fail
        refine (HW.out _ (HKX.out.trans HK2.out)).mono ?_
        rintro e w3 ⟨rfl, k3⟩
        have HK3 := Lib.hid ((HKX.out.trans HK2.out).trans k3)
        clear k3
        go_wp2_with fail
        go_ret
        exact ⟨rfl, HK3.out⟩
      · have hLd : loadS TX.data.toList = .inr c := by
          rw [HTX.out, str_list]
          refine HLB.out.2 ?_
          have : TX.size = (printC c).length := by rw [HTX.out, str_size]
          omega
        have hLd2 : loadS (printC c) = .inr c := by rw [HTX.out, str_list] at hLd; exact hLd
        have HLD2 := Lib.hid hLd2
        have R2 := Lib.hid (fun W => load_any W TX hpl)
        rw [hLd] at R2
        clear hLd hLd2
        go_wp2_with fail
        refine (R2.out _).mono ?_
        rintro e w3 hL
        obtain ⟨cv', gv', uv', av', d0, d1, d2, d3, d4, d5, d6, d7, d8, d9, rfl, hown, -, -, -, -⟩ := hL.1 c rfl
        obtain ⟨a1', n1', c1', a2', n2', c2', a3', n3', c3', a4', n4', c4', rfl, rfl, rfl, rfl⟩ := hown.open_
        have HK3 := Lib.hid (HK2.out.trans hL.2.2)
        have HOW' := Lib.hid hown
        clear hL hown
        simp only [cfL]
        go_upto_region 8 with (fail)
        obtain ⟨wy, hwy⟩ : ∃ wy, wy = w3.alloc (.cells #[.slice a1' n1' c1', .slice a2' n2' c2', .slice a3' n3' c3', .slice a4' n4' c4', .string d0, .string d1, .string d2, .string d3, .string d4, .string d5, .string d6, .string d7, .string d8, .string d9] 29) := ⟨_, rfl⟩
        have hky : Keeps (fun _ => False) w3 wy := by rw [hwy]; exact (Keeps.refl _ _).alloc _
        have hby : Blk wy w3.heap.size 29 #[.slice a1' n1' c1', .slice a2' n2' c2', .slice a3' n3' c3', .slice a4' n4' c4', .string d0, .string d1, .string d2, .string d3, .string d4, .string d5, .string d6, .string d7, .string d8, .string d9] := by rw [hwy]; exact Blk.new _ _ _
        have hv' : CfV wy w3.heap.size #[.slice a1' n1' c1', .slice a2' n2' c2', .slice a3' n3' c3', .slice a4' n4' c4', .string d0, .string d1, .string d2, .string d3, .string d4, .string d5, .string d6, .string d7, .string d8, .string d9] (fun i => w2.heap.size ≤ i ∧ i < w3.heap.size) (.slice a1' n1' c1') (.slice a2' n2' c2') (.slice a3' n3' c3') (.slice a4' n4' c4') d0 d1 d2 d3 d4 d5 d6 d7 d8 d9 c := ⟨hby, HOW'.out.at_.keeps hky (fun _ _ _ => id), fun i hi => by have := hby.lt; omega, HOW'.out.brk⟩
        have HV' := Lib.hid (fun W (k : Keeps (fun _ => False) wy W) => hv'.keeps k)
        have HKY := Lib.hid (HK3.out.trans hky)
        rw [← hwy]
        clear hwy hky hby hv'
        have HTT : Hid (sameC c c = true) := Lib.hid (sameC_iff.2 rfl)
        have HIC : Hid (isC c = true) := Lib.hid (isC_good HLD2.out)
        have Vy := (HV.out wy (HKY.out)).blk
        have y0 : wy.cell? ⟨w1.heap.size, 0, none⟩ = some (.slice a1 n1 c1) := Vy.cell 0
        have y1 : wy.cell? ⟨w1.heap.size, 1, none⟩ = some (.slice a2 n2 c2) := Vy.cell 1
        have y2 : wy.cell? ⟨w1.heap.size, 2, none⟩ = some (.slice a3 n3 c3) := Vy.cell 2
        have y3 : wy.cell? ⟨w1.heap.size, 3, none⟩ = some (.slice a4 n4 c4) := Vy.cell 3
        have y4 : wy.cell? ⟨w1.heap.size, 4, none⟩ = some (.string b0) := Vy.cell 4
        have y5 : wy.cell? ⟨w1.heap.size, 5, none⟩ = some (.string b1) := Vy.cell 5
        have y6 : wy.cell? ⟨w1.heap.size, 6, none⟩ = some (.string b2) := Vy.cell 6
        have y7 : wy.cell? ⟨w1.heap.size, 7, none⟩ = some (.string b3) := Vy.cell 7
        have y8 : wy.cell? ⟨w1.heap.size, 8, none⟩ = some (.string b4) := Vy.cell 8
        have y9 : wy.cell? ⟨w1.heap.size, 9, none⟩ = some (.string b5) := Vy.cell 9
        have y10 : wy.cell? ⟨w1.heap.size, 10, none⟩ = some (.string b6) := Vy.cell 10
        have y11 : wy.cell? ⟨w1.heap.size, 11, none⟩ = some (.string b7) := Vy.cell 11
        have y12 : wy.cell? ⟨w1.heap.size, 12, none⟩ = some (.string b8) := Vy.cell 12
        have y13 : wy.cell? ⟨w1.heap.size, 13, none⟩ = some (.string b9) := Vy.cell 13
        clear Vy
        have Vz := (HV'.out wy (Keeps.refl _ _)).blk
        have z0 : wy.cell? ⟨w3.heap.size, 0, none⟩ = some (.slice a1' n1' c1') := Vz.cell 0
        have z1 : wy.cell? ⟨w3.heap.size, 1, none⟩ = some (.slice a2' n2' c2') := Vz.cell 1
        have z2 : wy.cell? ⟨w3.heap.size, 2, none⟩ = some (.slice a3' n3' c3') := Vz.cell 2
        have z3 : wy.cell? ⟨w3.heap.size, 3, none⟩ = some (.slice a4' n4' c4') := Vz.cell 3
        have z4 : wy.cell? ⟨w3.heap.size, 4, none⟩ = some (.string d0) := Vz.cell 4
        have z5 : wy.cell? ⟨w3.heap.size, 5, none⟩ = some (.string d1) := Vz.cell 5
        have z6 : wy.cell? ⟨w3.heap.size, 6, none⟩ = some (.string d2) := Vz.cell 6
        have z7 : wy.cell? ⟨w3.heap.size, 7, none⟩ = some (.string d3) := Vz.cell 7
        have z8 : wy.cell? ⟨w3.heap.size, 8, none⟩ = some (.string d4) := Vz.cell 8
        have z9 : wy.cell? ⟨w3.heap.size, 9, none⟩ = some (.string d5) := Vz.cell 9
        have z10 : wy.cell? ⟨w3.heap.size, 10, none⟩ = some (.string d6) := Vz.cell 10
        have z11 : wy.cell? ⟨w3.heap.size, 11, none⟩ = some (.string d7) := Vz.cell 11
        have z12 : wy.cell? ⟨w3.heap.size, 12, none⟩ = some (.string d8) := Vz.cell 12
        have z13 : wy.cell? ⟨w3.heap.size, 13, none⟩ = some (.string d9) := Vz.cell 13
        clear Vz
        go_wp2_with fail
        refine (r15same_any wy _ _ (.slice a1' n1' c1') (.slice a2' n2' c2') (.slice a3' n3' c3') (.slice a4' n4' c4') (.slice a1 n1 c1) (.slice a2 n2 c2) (.slice a3 n3 c3) (.slice a4 n4 c4) d0 d1 d2 d3 d4 d5 d6 d7 d8 d9 b0 b1 b2 b3 b4 b5 b6 b7 b8 b9 c c (HV'.out wy (Keeps.refl _ _)).at_ (HV.out wy HKY.out).at_ HOW'.out.brk HOW.out.brk HCG.out.few HCG.out.few).mono ?_
        rintro e w4 ⟨rfl, k4⟩
        rw [HTT.out]
        have HK4 := Lib.hid k4
        clear k4
        have Vp := (HV.out w4 (HKY.out.trans HK4.out)).blk
        have p0 : w4.cell? ⟨w1.heap.size, 0, none⟩ = some (.slice a1 n1 c1) := Vp.cell 0
        have p1 : w4.cell? ⟨w1.heap.size, 1, none⟩ = some (.slice a2 n2 c2) := Vp.cell 1
        have p2 : w4.cell? ⟨w1.heap.size, 2, none⟩ = some (.slice a3 n3 c3) := Vp.cell 2
        have p3 : w4.cell? ⟨w1.heap.size, 3, none⟩ = some (.slice a4 n4 c4) := Vp.cell 3
        have p4 : w4.cell? ⟨w1.heap.size, 4, none⟩ = some (.string b0) := Vp.cell 4
        have p5 : w4.cell? ⟨w1.heap.size, 5, none⟩ = some (.string b1) := Vp.cell 5
        have p6 : w4.cell? ⟨w1.heap.size, 6, none⟩ = some (.string b2) := Vp.cell 6
        have p7 : w4.cell? ⟨w1.heap.size, 7, none⟩ = some (.string b3) := Vp.cell 7
        have p8 : w4.cell? ⟨w1.heap.size, 8, none⟩ = some (.string b4) := Vp.cell 8
        have p9 : w4.cell? ⟨w1.heap.size, 9, none⟩ = some (.string b5) := Vp.cell 9
        have p10 : w4.cell? ⟨w1.heap.size, 10, none⟩ = some (.string b6) := Vp.cell 10
        have p11 : w4.cell? ⟨w1.heap.size, 11, none⟩ = some (.string b7) := Vp.cell 11
        have p12 : w4.cell? ⟨w1.heap.size, 12, none⟩ = some (.string b8) := Vp.cell 12
        have p13 : w4.cell? ⟨w1.heap.size, 13, none⟩ = some (.string b9) := Vp.cell 13
        clear Vp
        go_wp2_with fail
        refine (cis_any w4 _ (.slice a1 n1 c1) (.slice a2 n2 c2) (.slice a3 n3 c3) (.slice a4 n4 c4) b0 b1 b2 b3 b4 b5 b6 b7 b8 b9 c (HV.out w4 (HKY.out.trans HK4.out)).at_ HOW.out.brk (HV.out w4 (HKY.out.trans HK4.out)).lt HCG.out.fine).mono ?_
        rintro e w5 ⟨rfl, k5⟩
        rw [HIC.out]
        have HK5 := Lib.hid (HK4.out.trans k5)
        clear k5
        have Vq := (HV.out w5 (HKY.out.trans HK5.out)).blk
        have q0 : w5.cell? ⟨w1.heap.size, 0, none⟩ = some (.slice a1 n1 c1) := Vq.cell 0
        have q1 : w5.cell? ⟨w1.heap.size, 1, none⟩ = some (.slice a2 n2 c2) := Vq.cell 1
        have q2 : w5.cell? ⟨w1.heap.size, 2, none⟩ = some (.slice a3 n3 c3) := Vq.cell 2
        have q3 : w5.cell? ⟨w1.heap.size, 3, none⟩ = some (.slice a4 n4 c4) := Vq.cell 3
        have q4 : w5.cell? ⟨w1.heap.size, 4, none⟩ = some (.string b0) := Vq.cell 4
        have q5 : w5.cell? ⟨w1.heap.size, 5, none⟩ = some (.string b1) := Vq.cell 5
        have q6 : w5.cell? ⟨w1.heap.size, 6, none⟩ = some (.string b2) := Vq.cell 6
        have q7 : w5.cell? ⟨w1.heap.size, 7, none⟩ = some (.string b3) := Vq.cell 7
        have q8 : w5.cell? ⟨w1.heap.size, 8, none⟩ = some (.string b4) := Vq.cell 8
        have q9 : w5.cell? ⟨w1.heap.size, 9, none⟩ = some (.string b5) := Vq.cell 9
        have q10 : w5.cell? ⟨w1.heap.size, 10, none⟩ = some (.string b6) := Vq.cell 10
        have q11 : w5.cell? ⟨w1.heap.size, 11, none⟩ = some (.string b7) := Vq.cell 11
        have q12 : w5.cell? ⟨w1.heap.size, 12, none⟩ = some (.string b8) := Vq.cell 12
        have q13 : w5.cell? ⟨w1.heap.size, 13, none⟩ = some (.string b9) := Vq.cell 13
        clear Vq
        have Vr := (HV'.out w5 (HK5.out)).blk
        have r0 : w5.cell? ⟨w3.heap.size, 0, none⟩ = some (.slice a1' n1' c1') := Vr.cell 0
        have r1 : w5.cell? ⟨w3.heap.size, 1, none⟩ = some (.slice a2' n2' c2') := Vr.cell 1
        have r2 : w5.cell? ⟨w3.heap.size, 2, none⟩ = some (.slice a3' n3' c3') := Vr.cell 2
        have r3 : w5.cell? ⟨w3.heap.size, 3, none⟩ = some (.slice a4' n4' c4') := Vr.cell 3
        have r4 : w5.cell? ⟨w3.heap.size, 4, none⟩ = some (.string d0) := Vr.cell 4
        have r5 : w5.cell? ⟨w3.heap.size, 5, none⟩ = some (.string d1) := Vr.cell 5
        have r6 : w5.cell? ⟨w3.heap.size, 6, none⟩ = some (.string d2) := Vr.cell 6
        have r7 : w5.cell? ⟨w3.heap.size, 7, none⟩ = some (.string d3) := Vr.cell 7
        have r8 : w5.cell? ⟨w3.heap.size, 8, none⟩ = some (.string d4) := Vr.cell 8
        have r9 : w5.cell? ⟨w3.heap.size, 9, none⟩ = some (.string d5) := Vr.cell 9
        have r10 : w5.cell? ⟨w3.heap.size, 10, none⟩ = some (.string d6) := Vr.cell 10
        have r11 : w5.cell? ⟨w3.heap.size, 11, none⟩ = some (.string d7) := Vr.cell 11
        have r12 : w5.cell? ⟨w3.heap.size, 12, none⟩ = some (.string d8) := Vr.cell 12
        have r13 : w5.cell? ⟨w3.heap.size, 13, none⟩ = some (.string d9) := Vr.cell 13
        clear Vr
        go_wp2_with fail
        refine (csame_any w5 _ _ (.slice a1' n1' c1') (.slice a2' n2' c2') (.slice a3' n3' c3') (.slice a4' n4' c4') (.slice a1 n1 c1) (.slice a2 n2 c2) (.slice a3 n3 c3) (.slice a4 n4 c4) d0 d1 d2 d3 d4 d5 d6 d7 d8 d9 b0 b1 b2 b3 b4 b5 b6 b7 b8 b9 c c (HV'.out w5 HK5.out).at_ (HV.out w5 (HKY.out.trans HK5.out)).at_ HOW'.out.brk HOW.out.brk (HV'.out w5 HK5.out).lt (HV.out w5 (HKY.out.trans HK5.out)).lt HCG.out.few HCG.out.few).mono ?_
        rintro e w6 ⟨rfl, k6⟩
        rw [HTT.out]
        have HK6 := Lib.hid (HK5.out.trans k6)
        clear k6
        have Vs := (HV'.out w6 (HK6.out)).blk
        have s0 : w6.cell? ⟨w3.heap.size, 0, none⟩ = some (.slice a1' n1' c1') := Vs.cell 0
        have s1 : w6.cell? ⟨w3.heap.size, 1, none⟩ = some (.slice a2' n2' c2') := Vs.cell 1
        have s2 : w6.cell? ⟨w3.heap.size, 2, none⟩ = some (.slice a3' n3' c3') := Vs.cell 2
        have s3 : w6.cell? ⟨w3.heap.size, 3, none⟩ = some (.slice a4' n4' c4') := Vs.cell 3
        have s4 : w6.cell? ⟨w3.heap.size, 4, none⟩ = some (.string d0) := Vs.cell 4
        have s5 : w6.cell? ⟨w3.heap.size, 5, none⟩ = some (.string d1) := Vs.cell 5
        have s6 : w6.cell? ⟨w3.heap.size, 6, none⟩ = some (.string d2) := Vs.cell 6
        have s7 : w6.cell? ⟨w3.heap.size, 7, none⟩ = some (.string d3) := Vs.cell 7
        have s8 : w6.cell? ⟨w3.heap.size, 8, none⟩ = some (.string d4) := Vs.cell 8
        have s9 : w6.cell? ⟨w3.heap.size, 9, none⟩ = some (.string d5) := Vs.cell 9
        have s10 : w6.cell? ⟨w3.heap.size, 10, none⟩ = some (.string d6) := Vs.cell 10
        have s11 : w6.cell? ⟨w3.heap.size, 11, none⟩ = some (.string d7) := Vs.cell 11
        have s12 : w6.cell? ⟨w3.heap.size, 12, none⟩ = some (.string d8) := Vs.cell 12
        have s13 : w6.cell? ⟨w3.heap.size, 13, none⟩ = some (.string d9) := Vs.cell 13
        clear Vs
        go_wp2_with fail
        refine (cprint_fine w6 _ (.slice a1' n1' c1') (.slice a2' n2' c2') (.slice a3' n3' c3') (.slice a4' n4' c4') d0 d1 d2 d3 d4 d5 d6 d7 d8 d9 c (HV'.out w6 HK6.out).at_ HOW'.out.brk (HV'.out w6 HK6.out).lt HCG.out.fine).mono ?_
        rintro e w7 ⟨rfl, k7⟩
        rw [← HTX.out]
        have HK7 := Lib.hid (HK6.out.trans k7)
        clear k7
        go_wp2_with fail
        refine (HW.out _ (HKX.out.trans (HKY.out.trans HK7.out))).mono ?_
        rintro e w8 ⟨rfl, k8⟩
        have HK8 := Lib.hid ((HKX.out.trans (HKY.out.trans HK7.out)).trans k8)
        clear k8
        go_wp2_with fail
        go_ret
        exact ⟨rfl, HK8.out⟩
end Go.Proofs.YtfpajgmdejlaeaaGreatDoor
