/-
  Texts of this claim, joined.
-/
import Derived.Test.YtfpajgmdejlaeaaGreatDoorQLikeLow
import Derived.Test.YtfpajgmdejlaeaaGreatDoorQConfBack
/-
  ConfLike returns true, whatever its arguments: the walk.
-/
namespace Go.Proofs.YtfpajgmdejlaeaaGreatDoor
open Go.RowKit Go.Maps

/-- a console's numbers are of the machine's -/
def ConInts (x : Con) : Prop := ∀ n ∈ [x.lines, x.bytes, x.gens, x.size, x.base, x.cap, x.jitter], -9223372036854775808 ≤ n ∧ n ≤ 9223372036854775807
structure LkEq (s1 s2 s4 s5 s6 s8 s9 s10 : ByteArray) : Prop where
  e2 : s1 ++ ({ data := #[99, 111, 110, 115, 111, 108, 101, 32, 122, 122, 32, 123, 32, 108, 105, 107, 101, 32] } : ByteArray) = s2
  e5 : s2 ++ s4 = s5
  e6 : s5 ++ ({ data := #[59, 32, 108, 105, 110, 101, 115, 32] } : ByteArray) = s6
  e9 : s6 ++ s8 = s9
  e10 : s9 ++ ({ data := #[59, 32, 125] } : ByteArray) = s10
structure LkSz (s1 s2 s4 s5 s6 s8 s9 s10 : ByteArray) : Prop where
  e2 : ¬ 9223372036854775807 < s1.size + 18
  e5 : ¬ 9223372036854775807 < s2.size + s4.size
  e6 : ¬ 9223372036854775807 < s5.size + 8
  e9 : ¬ 9223372036854775807 < s6.size + s8.size
  e10 : ¬ 9223372036854775807 < s9.size + 3
theorem cf1_len {x : Con} (h1 : x.name.size ≤ 300) (h2 : x.init.size ≤ 300) (h3 : ConInts x) : (printC (cf1 x)).length ≤ 1000000 := by
  have hb : ∀ s ∈ (cf1 x).brks, s.size ≤ 300 := fun s hs => by
    obtain ⟨-, rfl⟩ := List.mem_replicate.1 hs; decide
  have hc : ∀ y ∈ (cf1 x).cons, y = x := fun y hy => by simpa [cf1] using hy
  have h4 := cost_conf (c := cf1 x) (M := 300) (N := 0) (by omega) (fun y hy => by rw [hc y hy]; exact ⟨h1, h2, h3⟩) (fun y hy => by simp [cf1] at hy) (fun y hy => by simp [cf1] at hy) (fun y hy => by simp [cf1] at hy) ⟨by simp [cf1], hb⟩
  have e1 : (cf1 x).cons.length = 1 := rfl
  have e2 : (cf1 x).grps.length = 0 := rfl
  have e3 : (cf1 x).usrs.length = 0 := rfl
  have e4 : (cf1 x).accs.length = 0 := rfl
  rw [e1, e2, e3, e4] at h4
  unfold printC
  cases hp : putL (nodesC (cf1 x)) 0 with
  | none => simp
  | some t => have := putL_cost _ _ _ hp; simp only [Option.getD_some]; omega
theorem cf1_fine {x : Con} (h1 : x.name.size ≤ 300) (h2 : x.init.size ≤ 300) (h3 : ConInts x) : CfFine (cf1 x) := by
  have hb : ∀ s ∈ (cf1 x).brks, s.size ≤ 300 := fun s hs => by
    obtain ⟨-, rfl⟩ := List.mem_replicate.1 hs; decide
  have hc : ∀ y ∈ (cf1 x).cons, y = x := fun y hy => by simpa [cf1] using hy
  refine ⟨⟨by simp [cf1], by simp [cf1], by simp [cf1], by simp [cf1], fun y hy => by simp [cf1] at hy⟩, fun y hy => by rw [hc y hy]; exact h3, fun y hy => by simp [cf1] at hy, fine_short ⟨fun y hy => by rw [hc y hy]; exact ⟨by omega, by omega, h3⟩, fun y hy => by simp [cf1] at hy, fun y hy => by simp [cf1] at hy, fun y hy => by simp [cf1] at hy, by simp [cf1], fun s hs => by have := hb s hs; omega⟩, ?_⟩
  have h4 := cost_conf (c := cf1 x) (M := 300) (N := 0) (by omega) (fun y hy => by rw [hc y hy]; exact ⟨h1, h2, h3⟩) (fun y hy => by simp [cf1] at hy) (fun y hy => by simp [cf1] at hy) (fun y hy => by simp [cf1] at hy) ⟨by simp [cf1], hb⟩
  have e1 : (cf1 x).cons.length = 1 := rfl
  have e2 : (cf1 x).grps.length = 0 := rfl
  have e3 : (cf1 x).usrs.length = 0 := rfl
  have e4 : (cf1 x).accs.length = 0 := rfl
  rw [e1, e2, e3, e4] at h4
  omega
/-- a variable's configuration of one console, which lies in a block of its own -/
theorem cf1_at {x : Con} {w : World} {b : Nat} {T : TypeId} (h : Blk w b T (conR x).toArray) : CfAt (fun i => i = b) w (.slice (some ⟨b, 0, none⟩) 1 1) (.slice none 0 0) (.slice none 0 0) (.slice none 0 0) (cf1 x) := by
  refine ⟨⟨some ⟨b, 0, none⟩, 1, rfl, ⟨rfl, fun _ => ⟨b, 0, rfl, h.lt, fun i y j u hy hu => ?_⟩⟩, fun _ => ⟨b, 0, rfl, rfl⟩⟩, ⟨[], ⟨none, 0, rfl, ⟨rfl, fun h => absurd h (by decide)⟩, fun h => absurd h (by decide)⟩, rfl, fun i x r hx _ => by simp [cf1] at hx⟩, ⟨none, 0, rfl, ⟨rfl, fun h => absurd h (Nat.lt_irrefl 0)⟩, fun h => absurd h (Nat.lt_irrefl 0)⟩, ⟨none, 0, rfl, ⟨rfl, fun h => absurd h (Nat.lt_irrefl 0)⟩, fun h => absurd h (Nat.lt_irrefl 0)⟩⟩
  have hi : i = 0 := by
    have := (List.getElem?_eq_some_iff.1 hy).1
    simp [cf1] at this
    exact this
  subst hi
  obtain rfl : x = y := by simpa [cf1] using hy
  have hj := (List.getElem?_eq_some_iff.1 hu).1
  have := h.cell j
  simpa [hu] using this
set_option maxRecDepth 100000 in
set_option maxHeartbeats 8000000 in
theorem confLike_walk0 (w : World) (x : Con) (n : Nat) (_hn : n < 256) (h1 : x.name.size ≤ maxLen) (h2 : x.init.size ≤ maxLen) (h3 : ConInts x) (hg : Ety w) : Calls Tryz.prog 5 #[.agg (conR x).toArray, .int .u8 n] w fun e w' => e = .returned (.bool true) ∧ Keeps (fun _ => False) w w' := by
  have HW := Lib.hid (fun W (k : Keeps (fun _ => False) w W) => works15 W (Ety.keeps hg k id))
  obtain ⟨nm, kd, x2, x3, x4, x5, x6, x7, x8, it⟩ := x
  have HI := Lib.hid h3
  clear hg h3
  simp only at h1 h2
  by_cases hbig : 40 < nm.size
  · go_enter Tryz.func5, Tryz.ntmps5
    simp only [conR]
    go_wp2_with fail
    refine (HW.out _ ((Keeps.refl _ _).alloc _)).mono ?_
    rintro e w2 ⟨rfl, k2⟩
    go_wp2_with fail
    go_ret
    exact ⟨rfl, ((Keeps.refl _ _).alloc _).trans k2⟩
  · by_cases hbig2 : 300 < it.size
    · go_enter Tryz.func5, Tryz.ntmps5
      simp only [conR]
      go_wp2_with fail
      refine (HW.out _ ((Keeps.refl _ _).alloc _)).mono ?_
      rintro e w2 ⟨rfl, k2⟩
      go_wp2_with fail
      go_ret
      exact ⟨rfl, ((Keeps.refl _ _).alloc _).trans k2⟩
    · have hf := cf1_fine (x := ⟨nm, kd, x2, x3, x4, x5, x6, x7, x8, it⟩) (by show nm.size ≤ 300; omega) (by show it.size ≤ 300; omega) HI.out
      go_enter Tryz.func5, Tryz.ntmps5
      simp only [conR]
      go_upto_region 4 with (fail)
      obtain ⟨wx, hwx⟩ : ∃ wx, wx = ((w.alloc (.cells #[.string nm, .int .i64 kd, .int .i64 x2, .int .i64 x3, .int .i64 x4, .int .i64 x5, .int .i64 x6, .int .i64 x7, .int .i64 x8, .string it] 42)).alloc (.cells #[.string nm, .int .i64 kd, .int .i64 x2, .int .i64 x3, .int .i64 x4, .int .i64 x5, .int .i64 x6, .int .i64 x7, .int .i64 x8, .string it] 42)).alloc (.cells #[.slice (some ⟨w.heap.size + 1, 0, none⟩) 1 1, .slice none 0 0, .slice none 0 0, .slice none 0 0, .string ⟨#[]⟩, .string ⟨#[]⟩, .string ⟨#[]⟩, .string ⟨#[]⟩, .string ⟨#[]⟩, .string ⟨#[]⟩, .string ⟨#[]⟩, .string ⟨#[]⟩, .string ⟨#[]⟩, .string ⟨#[]⟩] 29) := ⟨_, rfl⟩
      have hkx : Keeps (fun _ => False) w wx := by rw [hwx]; exact (((Keeps.refl _ _).alloc _).alloc _).alloc _
      have hb0 : Blk wx w.heap.size 42 #[.string nm, .int .i64 kd, .int .i64 x2, .int .i64 x3, .int .i64 x4, .int .i64 x5, .int .i64 x6, .int .i64 x7, .int .i64 x8, .string it] := by rw [hwx]; exact (Blk.new w _ _).keeps (((Keeps.refl (fun _ => False) _).alloc _).alloc _) id
      have hb1 : Blk wx (w.heap.size + 1) 42 #[.string nm, .int .i64 kd, .int .i64 x2, .int .i64 x3, .int .i64 x4, .int .i64 x5, .int .i64 x6, .int .i64 x7, .int .i64 x8, .string it] := by
        rw [hwx]
        have := (Blk.new (w.alloc (.cells #[.string nm, .int .i64 kd, .int .i64 x2, .int .i64 x3, .int .i64 x4, .int .i64 x5, .int .i64 x6, .int .i64 x7, .int .i64 x8, .string it] 42)) 42 #[.string nm, .int .i64 kd, .int .i64 x2, .int .i64 x3, .int .i64 x4, .int .i64 x5, .int .i64 x6, .int .i64 x7, .int .i64 x8, .string it]).keeps ((Keeps.refl (fun _ => False) _).alloc (.cells #[.slice (some ⟨w.heap.size + 1, 0, none⟩) 1 1, .slice none 0 0, .slice none 0 0, .slice none 0 0, .string ⟨#[]⟩, .string ⟨#[]⟩, .string ⟨#[]⟩, .string ⟨#[]⟩, .string ⟨#[]⟩, .string ⟨#[]⟩, .string ⟨#[]⟩, .string ⟨#[]⟩, .string ⟨#[]⟩, .string ⟨#[]⟩] 29)) id
        rwa [World.size_alloc] at this
      have hb2 : Blk wx (w.heap.size + 1 + 1) 29 #[.slice (some ⟨w.heap.size + 1, 0, none⟩) 1 1, .slice none 0 0, .slice none 0 0, .slice none 0 0, .string ⟨#[]⟩, .string ⟨#[]⟩, .string ⟨#[]⟩, .string ⟨#[]⟩, .string ⟨#[]⟩, .string ⟨#[]⟩, .string ⟨#[]⟩, .string ⟨#[]⟩, .string ⟨#[]⟩, .string ⟨#[]⟩] := by
        rw [hwx]
        have := Blk.new ((w.alloc (.cells #[.string nm, .int .i64 kd, .int .i64 x2, .int .i64 x3, .int .i64 x4, .int .i64 x5, .int .i64 x6, .int .i64 x7, .int .i64 x8, .string it] 42)).alloc (.cells #[.string nm, .int .i64 kd, .int .i64 x2, .int .i64 x3, .int .i64 x4, .int .i64 x5, .int .i64 x6, .int .i64 x7, .int .i64 x8, .string it] 42)) 29 #[.slice (some ⟨w.heap.size + 1, 0, none⟩) 1 1, .slice none 0 0, .slice none 0 0, .slice none 0 0, .string ⟨#[]⟩, .string ⟨#[]⟩, .string ⟨#[]⟩, .string ⟨#[]⟩, .string ⟨#[]⟩, .string ⟨#[]⟩, .string ⟨#[]⟩, .string ⟨#[]⟩, .string ⟨#[]⟩, .string ⟨#[]⟩]
        rwa [World.size_alloc, World.size_alloc] at this
      have y0 : wx.cell? ⟨w.heap.size + 1 + 1, 0, none⟩ = some (.slice (some ⟨w.heap.size + 1, 0, none⟩) 1 1) := hb2.cell 0
      have y1 : wx.cell? ⟨w.heap.size + 1 + 1, 1, none⟩ = some (.slice none 0 0) := hb2.cell 1
      have y2 : wx.cell? ⟨w.heap.size + 1 + 1, 2, none⟩ = some (.slice none 0 0) := hb2.cell 2
      have y3 : wx.cell? ⟨w.heap.size + 1 + 1, 3, none⟩ = some (.slice none 0 0) := hb2.cell 3
      have y4 : wx.cell? ⟨w.heap.size + 1 + 1, 4, none⟩ = some (.string ⟨#[]⟩) := hb2.cell 4
      have y5 : wx.cell? ⟨w.heap.size + 1 + 1, 5, none⟩ = some (.string ⟨#[]⟩) := hb2.cell 5
      have y6 : wx.cell? ⟨w.heap.size + 1 + 1, 6, none⟩ = some (.string ⟨#[]⟩) := hb2.cell 6
      have y7 : wx.cell? ⟨w.heap.size + 1 + 1, 7, none⟩ = some (.string ⟨#[]⟩) := hb2.cell 7
      have y8 : wx.cell? ⟨w.heap.size + 1 + 1, 8, none⟩ = some (.string ⟨#[]⟩) := hb2.cell 8
      have y9 : wx.cell? ⟨w.heap.size + 1 + 1, 9, none⟩ = some (.string ⟨#[]⟩) := hb2.cell 9
      have y10 : wx.cell? ⟨w.heap.size + 1 + 1, 10, none⟩ = some (.string ⟨#[]⟩) := hb2.cell 10
      have y11 : wx.cell? ⟨w.heap.size + 1 + 1, 11, none⟩ = some (.string ⟨#[]⟩) := hb2.cell 11
      have y12 : wx.cell? ⟨w.heap.size + 1 + 1, 12, none⟩ = some (.string ⟨#[]⟩) := hb2.cell 12
      have y13 : wx.cell? ⟨w.heap.size + 1 + 1, 13, none⟩ = some (.string ⟨#[]⟩) := hb2.cell 13
      have z0 : wx.cell? ⟨w.heap.size, 0, none⟩ = some (.string nm) := hb0.cell 0
      have HB0 := Lib.hid hb0
      have HB1 := Lib.hid hb1
      have HB2 := Lib.hid hb2
      have HKX := Lib.hid hkx
      have HAT := Lib.hid (fun W (k : Keeps (fun _ => False) wx W) => cf1_at (x := ⟨nm, kd, x2, x3, x4, x5, x6, x7, x8, it⟩) (hb1.keeps k id))
      have HLT : Hid (w.heap.size + 1 < wx.heap.size) := Lib.hid hb1.lt
      have HIS := Lib.hid (cis_any wx _ _ _ _ _ ⟨#[]⟩ ⟨#[]⟩ ⟨#[]⟩ ⟨#[]⟩ ⟨#[]⟩ ⟨#[]⟩ ⟨#[]⟩ ⟨#[]⟩ ⟨#[]⟩ ⟨#[]⟩ (cf1 ⟨nm, kd, x2, x3, x4, x5, x6, x7, x8, it⟩) (HAT.out wx (Keeps.refl _ _)) rfl (fun i hi => by rw [hi]; exact HLT.out) hf)
      simp only [cfL] at HIS
      have HF := Lib.hid hf
      rw [← hwx]
      clear hwx hkx hb0 hb1 hb2 hf
      cases hq : isC (cf1 ⟨nm, kd, x2, x3, x4, x5, x6, x7, x8, it⟩) with
      | false =>
        rw [hq] at HIS
        go_wp2_with fail
        refine HIS.out.mono ?_
        rintro e w2 ⟨rfl, k2⟩
        have HK2 := Lib.hid (HKX.out.trans k2)
        clear k2
        go_wp2_with fail
        refine (HW.out _ HK2.out).mono ?_
        rintro e w3 ⟨rfl, k3⟩
        have HK3 := Lib.hid (HK2.out.trans k3)
        clear k3
        go_wp2_with fail
        go_ret
        exact ⟨rfl, HK3.out⟩
      | true =>
        rw [hq] at HIS
        have HQ := Lib.hid hq
        by_cases hz : nm = kZz
        · obtain rfl : nm = ⟨#[122, 122]⟩ := hz
          go_wp2_with fail
          refine HIS.out.mono ?_
          rintro e w2 ⟨rfl, k2⟩
          have z2 : w2.cell? ⟨w.heap.size, 0, none⟩ = some (.string ⟨#[122, 122]⟩) := (HB0.out.keeps k2 id).cell 0
          have HK2 := Lib.hid (HKX.out.trans k2)
          clear k2
          go_wp2_with fail
          refine (HW.out _ HK2.out).mono ?_
          rintro e w3 ⟨rfl, k3⟩
          have HK3 := Lib.hid (HK2.out.trans k3)
          clear k3
          go_wp2_with fail
          go_ret
          exact ⟨rfl, HK3.out⟩
        · go_wp2_with fail
          refine HIS.out.mono ?_
          rintro e w2 ⟨rfl, k2⟩
          have z2 : w2.cell? ⟨w.heap.size, 0, none⟩ = some (.string nm) := (HB0.out.keeps k2 id).cell 0
          have hzz : (nm.toList == [122, 122]) = false := by
            rw [beq_eq_false_iff_ne]
            exact fun e => hz (ba_ext (by rw [ByteArray.toList_eq] at e; exact e))
          have HZ := Lib.hid hz
          clear hz
          have hsm1 : nm.size ≤ 40 := by omega
          have hll := like_load (x := ⟨nm, kd, x2, x3, x4, x5, x6, x7, x8, it⟩) (n := ((n + 1 : Nat) : Int)) HQ.out HZ.out (by omega) (by omega)
          obtain ⟨c2, hc2⟩ : ∃ c2, c2 = { cf1 ⟨nm, kd, x2, x3, x4, x5, x6, x7, x8, it⟩ with cons := [⟨nm, kd, x2, x3, x4, x5, x6, x7, x8, it⟩, { (⟨nm, kd, x2, x3, x4, x5, x6, x7, x8, it⟩ : Con) with name := kZz, lines := ((n + 1 : Nat) : Int) }] } := ⟨_, rfl⟩
          have hPl := cf1_len (x := ⟨nm, kd, x2, x3, x4, x5, x6, x7, x8, it⟩) (by show nm.size ≤ 300; omega) (by show it.size ≤ 300; omega) HI.out
          obtain ⟨s1, hs1⟩ : ∃ s1, s1 = str (printC (cf1 ⟨nm, kd, x2, x3, x4, x5, x6, x7, x8, it⟩)) := ⟨_, rfl⟩
          obtain ⟨s2, hs2⟩ : ∃ s2, s1 ++ ({ data := #[99, 111, 110, 115, 111, 108, 101, 32, 122, 122, 32, 123, 32, 108, 105, 107, 101, 32] } : ByteArray) = s2 := ⟨_, rfl⟩
          obtain ⟨s5, hs5⟩ : ∃ s5, s2 ++ nm = s5 := ⟨_, rfl⟩
          obtain ⟨s6, hs6⟩ : ∃ s6, s5 ++ ({ data := #[59, 32, 108, 105, 110, 101, 115, 32] } : ByteArray) = s6 := ⟨_, rfl⟩
          obtain ⟨s8, hs8⟩ : ∃ s8, s8 = str (dec ((n + 1 : Nat) : Int)) := ⟨_, rfl⟩
          obtain ⟨s9, hs9⟩ : ∃ s9, s6 ++ s8 = s9 := ⟨_, rfl⟩
          obtain ⟨s10, hs10⟩ : ∃ s10, s9 ++ ({ data := #[59, 32, 125] } : ByteArray) = s10 := ⟨_, rfl⟩
          have hzN : str (decZ (n + 1)) = s8 := by rw [hs8, dec_pos (by omega), Int.toNat_natCast]; unfold decZ; rw [if_neg (by omega)]
          have l1 : s1.size ≤ 1000000 := by rw [hs1, str_size]; exact hPl
          have l8 : s8.size ≤ 20 := by rw [hs8, str_size]; exact dec_le (by omega) (by omega)
          have l2 : s2.size = s1.size + 18 := by rw [← hs2, ByteArray.size_append]; rfl
          have l5 : s5.size = s2.size + nm.size := by rw [← hs5, ByteArray.size_append]
          have l6 : s6.size = s5.size + 8 := by rw [← hs6, ByteArray.size_append]; rfl
          have l9 : s9.size = s6.size + s8.size := by rw [← hs9, ByteArray.size_append]
          have l10 : s10.size = s9.size + 3 := by rw [← hs10, ByteArray.size_append]; rfl
          have hld : loadS s10.data.toList = .inr c2 := by
            rw [hc2, ← hll.2, ← hs10, ← hs9, ← hs6, ← hs5, ← hs2, hs1, hs8]
            unfold likeT
            simp only [append_str', str_list]
            simp [List.append_assoc]
          have HEQ : Hid (LkEq s1 s2 nm s5 s6 s8 s9 s10) := Lib.hid ⟨hs2, hs5, hs6, hs9, hs10⟩
          have HSZ : Hid (LkSz s1 s2 nm s5 s6 s8 s9 s10) := Lib.hid ⟨by omega, by omega, by omega, by omega, by omega⟩
          have HS10 : Hid (s10.size ≤ 1073741820) := Lib.hid (by omega)
          have hg2 := k2.size
          have HC0 : Hid (∀ W, LkR w2.heap.size c2 w2 W → Blk W w.heap.size 42 #[.string nm, .int .i64 kd, .int .i64 x2, .int .i64 x3, .int .i64 x4, .int .i64 x5, .int .i64 x6, .int .i64 x7, .int .i64 x8, .string it]) := Lib.hid (fun W h => h.old (HB0.out.keeps k2 id) (by have := HB0.out.lt; omega))
          have HC1 : Hid (∀ W, LkR w2.heap.size c2 w2 W → Blk W (w.heap.size + 1) 42 #[.string nm, .int .i64 kd, .int .i64 x2, .int .i64 x3, .int .i64 x4, .int .i64 x5, .int .i64 x6, .int .i64 x7, .int .i64 x8, .string it]) := Lib.hid (fun W h => h.old (HB1.out.keeps k2 id) (by have := HB1.out.lt; omega))
          have HC2 : Hid (∀ W, LkR w2.heap.size c2 w2 W → Blk W (w.heap.size + 1 + 1) 29 #[.slice (some ⟨w.heap.size + 1, 0, none⟩) 1 1, .slice none 0 0, .slice none 0 0, .slice none 0 0, .string ⟨#[]⟩, .string ⟨#[]⟩, .string ⟨#[]⟩, .string ⟨#[]⟩, .string ⟨#[]⟩, .string ⟨#[]⟩, .string ⟨#[]⟩, .string ⟨#[]⟩, .string ⟨#[]⟩, .string ⟨#[]⟩]) := Lib.hid (fun W h => h.old (HB2.out.keeps k2 id) (by have := HB2.out.lt; omega))
          have HPR : Hid (∀ W, LkR w2.heap.size c2 w2 W → Calls Tryz.prog 8 #[.agg #[.slice (some ⟨w.heap.size + 1, 0, none⟩) 1 1, .slice none 0 0, .slice none 0 0, .slice none 0 0, .string ⟨#[]⟩, .string ⟨#[]⟩, .string ⟨#[]⟩, .string ⟨#[]⟩, .string ⟨#[]⟩, .string ⟨#[]⟩, .string ⟨#[]⟩, .string ⟨#[]⟩, .string ⟨#[]⟩, .string ⟨#[]⟩]] W fun e w' => e = .returned (.string s1) ∧ Keeps (fun _ => False) W w') := Lib.hid (fun W h => by
            rw [hs1]
            exact cprint_fine W (fun i => i = w.heap.size + 1) _ _ _ _ _ _ _ _ _ _ _ _ _ _ (cf1 ⟨nm, kd, x2, x3, x4, x5, x6, x7, x8, it⟩) (cf1_at (HC1.out W h)) rfl (fun i hi => by rw [hi]; exact (HC1.out W h).lt) HF.out)
          have HDC : Hid (∀ W, Calls Tryz.prog 15 #[.int .i64 ((n : Int) + 1)] W fun e w' => e = .returned (.string s8) ∧ Keeps (fun _ => False) W w') := Lib.hid (fun W => by
            have := decimal_any W (n + 1) (by omega)
            rw [hzN] at this
            exact this)
          have HLD : Hid (∀ W, Calls Tryz.prog 7 #[.string s10] W fun e w' => LoadPost (.inr c2) W e w') := Lib.hid (fun W => by
            have := load_any W s10 HS10.out
            rw [hld] at this
            exact this)
          have HC2' := Lib.hid hc2
          clear hs1 hs2 hs5 hs6 hs8 hs9 hs10 hc2 hzN hPl l1 l2 l5 l6 l8 l9 l10 hld hll hg2 hsm1
          have HK2 := Lib.hid (HKX.out.trans k2)
          have HK2a := Lib.hid k2
          clear k2
          go_upto_region 7 with (fail)
          refine wp_region_specsV (n := 80) (dfs := []) (R := LkR w2.heap.size c2) (Pk := LkP w2.heap.size w.heap.size (.agg #[.slice (some ⟨w.heap.size + 1, 0, none⟩) 1 1, .slice none 0 0, .slice none 0 0, .slice none 0 0, .string ⟨#[]⟩, .string ⟨#[]⟩, .string ⟨#[]⟩, .string ⟨#[]⟩, .string ⟨#[]⟩, .string ⟨#[]⟩, .string ⟨#[]⟩, .string ⟨#[]⟩, .string ⟨#[]⟩, .string ⟨#[]⟩]) s1 s2 nm s5 s6 s8 s9 s10 ((n : Int) + 1) c2) (by kernel_rfl) rfl rfl rfl (LkR.of (Keeps.refl _ _).drew) (fun _ _ _ h k => h.trans k) (fun k v l w w' h hp => LkP.stable k v l w w' h hp) (by kernel_rfl) rfl ?_ ?_
          · refine StepsLV.plain rfl (fun Q a W hR hf hd K hK => ?_) ?_
            · have f5 : a.tmps[5]?.getD undef = .pointer (some ⟨w.heap.size + 1 + 1, 0, none⟩) := hf.out 5 (by kernel_rfl)
              have hb := HC2.out W hR
              have c0 := hb.cell 0
              have c1 := hb.cell 1
              have c2 := hb.cell 2
              have c3 := hb.cell 3
              have c4 := hb.cell 4
              have c5 := hb.cell 5
              have c6 := hb.cell 6
              have c7 := hb.cell 7
              have c8 := hb.cell 8
              have c9 := hb.cell 9
              have c10 := hb.cell 10
              have c11 := hb.cell 11
              have c12 := hb.cell 12
              have c13 := hb.cell 13
              simp only [List.getElem?_toArray, List.getElem?_cons_zero, List.getElem?_cons_succ] at c0 c1 c2 c3 c4 c5 c6 c7 c8 c9 c10 c11 c12 c13
              clear hb
              go_simp
              exact hK.out _ _ (LkR.of (Keeps.refl _ _)) rfl
            refine StepsLV.plain rfl (fun Q a W hR hf hd K hK => ?_) ?_
            · have d0 : a.tmps[37]?.getD undef = .agg #[.slice (some ⟨w.heap.size + 1, 0, none⟩) 1 1, .slice none 0 0, .slice none 0 0, .slice none 0 0, .string ⟨#[]⟩, .string ⟨#[]⟩, .string ⟨#[]⟩, .string ⟨#[]⟩, .string ⟨#[]⟩, .string ⟨#[]⟩, .string ⟨#[]⟩, .string ⟨#[]⟩, .string ⟨#[]⟩, .string ⟨#[]⟩] := hd.get 0 (by kernel_rfl)
              go_simp
              refine (HPR.out W hR).mono ?_
              rintro e w4 ⟨rfl, k4⟩
              exact hK.out _ _ (LkR.of k4) rfl
            refine StepsLV.plain rfl (fun Q a W hR hf hd K hK => ?_) ?_
            · have d1 : a.tmps[38]?.getD undef = .string s1 := hd.get 1 (by kernel_rfl)
              have e : s1 ++ ({ data := #[99, 111, 110, 115, 111, 108, 101, 32, 122, 122, 32, 123, 32, 108, 105, 107, 101, 32] } : ByteArray) = s2 := HEQ.out.e2
              have z : ¬ 9223372036854775807 < s1.size + 18 := HSZ.out.e2
              have E := Lib.hid e
              clear e
              go_simp
              exact hK.out _ _ (LkR.of (Keeps.refl _ _)) (congrArg Value.string E.out)
            refine StepsLV.plain rfl (fun Q a W hR hf hd K hK => ?_) ?_
            · have f2 : a.tmps[2]?.getD undef = .pointer (some ⟨w.heap.size, 0, none⟩) := hf.out 2 (by kernel_rfl)
              go_simp
              exact hK.out _ _ (LkR.of (Keeps.refl _ _)) rfl
            refine StepsLV.plain rfl (fun Q a W hR hf hd K hK => ?_) ?_
            · have d3 : a.tmps[40]?.getD undef = .pointer (some ⟨w.heap.size, 0, none⟩) := hd.get 3 (by kernel_rfl)
              have c0 : W.cell? ⟨w.heap.size, 0, none⟩ = some (.string nm) := (HC0.out W hR).cell 0
              go_simp
              exact hK.out _ _ (LkR.of (Keeps.refl _ _)) rfl
            refine StepsLV.plain rfl (fun Q a W hR hf hd K hK => ?_) ?_
            · have d2 : a.tmps[39]?.getD undef = .string s2 := hd.get 2 (by kernel_rfl)
              have d4 : a.tmps[41]?.getD undef = .string nm := hd.get 4 (by kernel_rfl)
              have e : s2 ++ nm = s5 := HEQ.out.e5
              have z : ¬ 9223372036854775807 < s2.size + nm.size := HSZ.out.e5
              have E := Lib.hid e
              clear e
              go_simp
              exact hK.out _ _ (LkR.of (Keeps.refl _ _)) (congrArg Value.string E.out)
            refine StepsLV.plain rfl (fun Q a W hR hf hd K hK => ?_) ?_
            · have d5 : a.tmps[42]?.getD undef = .string s5 := hd.get 5 (by kernel_rfl)
              have e : s5 ++ ({ data := #[59, 32, 108, 105, 110, 101, 115, 32] } : ByteArray) = s6 := HEQ.out.e6
              have z : ¬ 9223372036854775807 < s5.size + 8 := HSZ.out.e6
              have E := Lib.hid e
              clear e
              go_simp
              exact hK.out _ _ (LkR.of (Keeps.refl _ _)) (congrArg Value.string E.out)
            refine StepsLV.plain rfl (fun Q a W hR hf hd K hK => ?_) ?_
            · have f6 : a.tmps[6]?.getD undef = .int .i64 ((n : Int) + 1) := hf.out 6 (by kernel_rfl)
              go_simp
              exact hK.out _ _ (LkR.of (Keeps.refl _ _)) rfl
            refine StepsLV.plain rfl (fun Q a W hR hf hd K hK => ?_) ?_
            · have d7 : a.tmps[44]?.getD undef = .int .i64 ((n : Int) + 1) := hd.get 7 (by kernel_rfl)
              go_simp
              refine (HDC.out W).mono ?_
              rintro e w4 ⟨rfl, k4⟩
              exact hK.out _ _ (LkR.of k4) rfl
            refine StepsLV.plain rfl (fun Q a W hR hf hd K hK => ?_) ?_
            · have d6 : a.tmps[43]?.getD undef = .string s6 := hd.get 6 (by kernel_rfl)
              have d8 : a.tmps[45]?.getD undef = .string s8 := hd.get 8 (by kernel_rfl)
              have e : s6 ++ s8 = s9 := HEQ.out.e9
              have z : ¬ 9223372036854775807 < s6.size + s8.size := HSZ.out.e9
              have E := Lib.hid e
              clear e
              go_simp
              exact hK.out _ _ (LkR.of (Keeps.refl _ _)) (congrArg Value.string E.out)
            refine StepsLV.plain rfl (fun Q a W hR hf hd K hK => ?_) ?_
            · have d9 : a.tmps[46]?.getD undef = .string s9 := hd.get 9 (by kernel_rfl)
              have e : s9 ++ ({ data := #[59, 32, 125] } : ByteArray) = s10 := HEQ.out.e10
              have z : ¬ 9223372036854775807 < s9.size + 3 := HSZ.out.e10
              have E := Lib.hid e
              clear e
              go_simp
              exact hK.out _ _ (LkR.of (Keeps.refl _ _)) (congrArg Value.string E.out)
            refine StepsLV.plain rfl (fun Q a W hR hf hd K hK => ?_) ?_
            · have d10 : a.tmps[47]?.getD undef = .string s10 := hd.get 10 (by kernel_rfl)
              go_simp
              refine (HLD.out W).mono ?_
              rintro e w4 hL
              obtain ⟨cv, gv, uv, av, b0, b1, b2, b3, b4, b5, b6, b7, b8, b9, rfl, hown, -⟩ := hL.1 _ rfl
              exact hK.out _ _ (LkR.of hL.2.2) ⟨cv, gv, uv, av, b0, b1, b2, b3, b4, b5, b6, b7, b8, b9, rfl, hown.less (hR.1.size)⟩
            refine StepsLV.plain rfl (fun Q a W hR hf hd K hK => ?_) ?_
            · have d11 : LkV w2.heap.size c2 (a.tmps[48]?.getD undef) W := hd.get 11 (by kernel_rfl)
              clear hd hf
              obtain ⟨cv, gv, uv, av, b0, b1, b2, b3, b4, b5, b6, b7, b8, b9, e11, hown⟩ := d11
              go_simp
              exact hK.out _ _ (LkR.of (Keeps.refl _ _)) ⟨cv, gv, uv, av, b0, b1, b2, b3, b4, b5, b6, b7, b8, b9, rfl, hown⟩
            refine StepsLV.plain rfl (fun Q a W hR hf hd K hK => ?_) ?_
            · have d12 : LkV w2.heap.size c2 (a.tmps[36]?.getD undef) W := hd.get 12 (by kernel_rfl)
              clear hd hf
              obtain ⟨cv, gv, uv, av, b0, b1, b2, b3, b4, b5, b6, b7, b8, b9, e12, hown⟩ := d12
              go_simp
              exact hK.out _ _ (LkR.of (Keeps.refl _ _)) ⟨cv, gv, uv, av, b0, b1, b2, b3, b4, b5, b6, b7, b8, b9, rfl, hown⟩
            refine StepsLV.plain rfl (fun Q a W hR hf hd K hK => ?_) ?_
            · have d12 : LkV w2.heap.size c2 (a.tmps[36]?.getD undef) W := hd.get 12 (by kernel_rfl)
              clear hd hf
              obtain ⟨cv, gv, uv, av, b0, b1, b2, b3, b4, b5, b6, b7, b8, b9, e12, hown⟩ := d12
              go_simp
              exact hK.out _ _ (LkR.of (Keeps.refl _ _)) rfl
            refine StepsLV.plain rfl (fun Q a W hR hf hd K hK => ?_) ?_
            · clear hd hf
              have hz := hR.1.size
              go_simp
              exact hK.out _ _ (LkR.of ((Keeps.refl _ _).alloc _)) ⟨_, _, rfl, hz, rfl, Blk.new _ _ _⟩
            refine StepsLV.plain rfl (fun Q a W hR hf hd K hK => ?_) ?_
            · have d13 : LkA w2.heap.size c2 (a.tmps[49]?.getD undef) W := hd.get 13 (by kernel_rfl)
              have d15 : LkB w2.heap.size (a.tmps[7]?.getD undef) W := hd.get 15 (by kernel_rfl)
              clear hd hf
              obtain ⟨cv, gv, uv, av, b0, b1, b2, b3, b4, b5, b6, b7, b8, b9, e13, hown⟩ := d13
              obtain ⟨g, cs, e15, hB, hs, hb⟩ := d15
              obtain ⟨a1, n1, x1, a2, n2, x2', a3, n3, x3', a4, n4, x4', rfl, rfl, rfl, rfl⟩ := hown.open_
              have hfin := fun w' h1 h2 => LkR.store (w' := w') hB hb hown h1 h2
              obtain ⟨v0, v1, v2, v3, v4, v5, v6, v7, v8, v9, v10, v11, v12, v13, rfl⟩ := cells14 hs
              have c0 : W.cell? ⟨g, 0, none⟩ = some v0 := hb.cell 0
              have c1 : W.cell? ⟨g, 1, none⟩ = some v1 := hb.cell 1
              have c2 : W.cell? ⟨g, 2, none⟩ = some v2 := hb.cell 2
              have c3 : W.cell? ⟨g, 3, none⟩ = some v3 := hb.cell 3
              have c4 : W.cell? ⟨g, 4, none⟩ = some v4 := hb.cell 4
              have c5 : W.cell? ⟨g, 5, none⟩ = some v5 := hb.cell 5
              have c6 : W.cell? ⟨g, 6, none⟩ = some v6 := hb.cell 6
              have c7 : W.cell? ⟨g, 7, none⟩ = some v7 := hb.cell 7
              have c8 : W.cell? ⟨g, 8, none⟩ = some v8 := hb.cell 8
              have c9 : W.cell? ⟨g, 9, none⟩ = some v9 := hb.cell 9
              have c10 : W.cell? ⟨g, 10, none⟩ = some v10 := hb.cell 10
              have c11 : W.cell? ⟨g, 11, none⟩ = some v11 := hb.cell 11
              have c12 : W.cell? ⟨g, 12, none⟩ = some v12 := hb.cell 12
              have c13 : W.cell? ⟨g, 13, none⟩ = some v13 := hb.cell 13
              have z0 := hb.frozen 0
              have z1 := hb.frozen 1
              have z2 := hb.frozen 2
              have z3 := hb.frozen 3
              have z4 := hb.frozen 4
              have z5 := hb.frozen 5
              have z6 := hb.frozen 6
              have z7 := hb.frozen 7
              have z8 := hb.frozen 8
              have z9 := hb.frozen 9
              have z10 := hb.frozen 10
              have z11 := hb.frozen 11
              have z12 := hb.frozen 12
              have z13 := hb.frozen 13
              simp only [cfL] at e13
              have hst := conf_set14 hb (.slice a1 n1 x1) (.slice a2 n2 x2') (.slice a3 n3 x3') (.slice a4 n4 x4') (.string b0) (.string b1) (.string b2) (.string b3) (.string b4) (.string b5) (.string b6) (.string b7) (.string b8) (.string b9)
              have hff := hfin _ hst.1 hst.2
              have HFF := Lib.hid hff
              have E15 := Lib.hid e15
              clear hst hff hfin
              go_simp
              refine hK.out undef _ HFF.out.1 (fun b hb2 => ?_)
              have hh : some (a.tmps[7]?.getD undef) = some (Value.pointer (some ⟨b, 0, none⟩)) := hb2
              rw [E15.out] at hh
              injection hh with hh
              injection hh with hh
              injection hh with hh
              injection hh with hh
              subst hh
              exact HFF.out.2
            refine StepsLV.plain rfl (fun Q a W hR hf hd K hK => ?_) ?_
            · have d14 : a.tmps[50]?.getD undef = .nilIface := hd.get 14 (by kernel_rfl)
              go_simp
              exact hK.out _ _ (LkR.of (Keeps.refl _ _)) rfl
            exact StepsLV.nil
          · intro a W hn hdf hR hf hv
            have f2 : a.tmps[2]?.getD undef = .pointer (some ⟨w.heap.size, 0, none⟩) := hf 2 (by kernel_rfl)
            have f6 : a.tmps[6]?.getD undef = .int .i64 ((n : Int) + 1) := hf 6 (by kernel_rfl)
            have s7 : LkB w2.heap.size (a.tmps[7]?.getD undef) W := hv 15 _ rfl
            have s8 : a.tmps[8]?.getD undef = .nilIface := hv 17 _ rfl
            have s16 : ∀ b, some (a.tmps[7]?.getD undef) = some (Value.pointer (some ⟨b, 0, none⟩)) → LkF w2.heap.size c2 b W := hv 16 _ rfl
            obtain ⟨g, cs, e7, hB, -, -⟩ := s7
            have hF := s16 g (by rw [e7])
            obtain ⟨y0, y1, y2, y3, y4, y5, y6, y7, y8, y9, y10, y11, y12, y13, y14, y15, y16, y17, y18, y19, y20, y21, y22, y23, y24, y25, y26, y27, y28, y29, y30, y31, y32, y33, y34, y35, y36, y37, y38, y39, y40, y41, y42, y43, y44, y45, y46, y47, y48, y49, y50, y51, y52, y53, y54, y55, y56, y57, y58, y59, y60, y61, y62, y63, y64, y65, y66, y67, y68, y69, y70, y71, y72, y73, y74, y75, y76, y77, y78, y79, ht⟩ := act80 a hn
            rw [ht] at f2 f6 e7 s8
            simp only [List.getElem?_toArray, List.getElem?_cons_zero, List.getElem?_cons_succ, Option.getD_some] at f2 f6 e7 s8
            obtain ⟨tm, dd⟩ := a
            simp only at ht hdf
            subst ht hdf f2 f6 e7 s8
            clear hn hv s16 hf
            have HF2 := Lib.hid hF
            have HR2 := Lib.hid hR
            clear hF hR
            obtain ⟨cv, gv, uv, av, d0, d1, d2, d3, d4, d5, d6, d7, d8, d9, hbg, hown⟩ := HF2.out
            obtain ⟨xa, xc, hcv⟩ := hown.cons.sl
            rw [show c2.cons.length = 2 by rw [HC2'.out]; rfl] at hcv
            subst hcv
            have q0 : W.cell? ⟨g, 0, none⟩ = some (.slice xa 2 xc) := hbg.cell 0
            have HBG := Lib.hid hbg
            have HOWN := Lib.hid hown
            have zc0 := (HR2.out.old (HB0.out.keeps HK2a.out id) (by have := HB0.out.lt; have := HK2a.out.size; omega))
            have HZC := Lib.hid zc0
            clear hbg hown
            have w0 := zc0.cell 0
            have w1 := zc0.cell 1
            have w2' := zc0.cell 2
            have w3 := zc0.cell 3
            have w4 := zc0.cell 4
            have w5 := zc0.cell 5
            have w6 := zc0.cell 6
            have w7 := zc0.cell 7
            have w8 := zc0.cell 8
            have w9 := zc0.cell 9
            simp only [List.getElem?_toArray, List.getElem?_cons_zero, List.getElem?_cons_succ] at w0 w1 w2' w3 w4 w5 w6 w7 w8 w9
            clear zc0
            go_upto_region 13 with (fail)
            obtain ⟨wv, hwv⟩ : ∃ wv, wv = W.alloc (.cells #[.string ⟨#[122, 122]⟩, .int .i64 kd, .int .i64 ((n : Int) + 1), .int .i64 x3, .int .i64 x4, .int .i64 x5, .int .i64 x6, .int .i64 x7, .int .i64 x8, .string it] 42) := ⟨_, rfl⟩
            have kv : Keeps (fun _ => False) W wv := by rw [hwv]; exact (Keeps.refl _ _).alloc _
            have hbv : Blk wv W.heap.size 42 #[.string ⟨#[122, 122]⟩, .int .i64 kd, .int .i64 ((n : Int) + 1), .int .i64 x3, .int .i64 x4, .int .i64 x5, .int .i64 x6, .int .i64 x7, .int .i64 x8, .string it] := by rw [hwv]; exact Blk.new _ _ _
            rw [← hwv]
            clear hwv w0 w1 w2' w3 w4 w5 w6 w7 w8 w9 q0
            have zx := HZC.out.keeps kv id
            have q0 : wv.cell? ⟨g, 0, none⟩ = some (.slice xa 2 xc) := (HBG.out.keeps kv id).cell 0
            have hcons := (HOWN.out.cons.keeps kv (fun _ _ _ _ => id)).shape conR_len
            rw [HC2'.out] at hcons
            obtain ⟨xa2, xc2, hv2, -, -, h3, h4⟩ := hcons
            injection hv2 with e1 _ e3
            subst e1 e3
            obtain ⟨gc, rfl, -, -, -⟩ := h3 (by simp)
            have r0 := fun j u => h4 gc rfl 0 ⟨nm, kd, x2, x3, x4, x5, x6, x7, x8, it⟩ j u rfl
            have r1 := fun j u => h4 gc rfl 1 ⟨kZz, kd, ((n + 1 : Nat) : Int), x3, x4, x5, x6, x7, x8, it⟩ j u rfl
            have a0 : wv.cell? ⟨w.heap.size, 0, none⟩ = some (.string nm) := zx.cell 0
            have a1 : wv.cell? ⟨w.heap.size, 1, none⟩ = some (.int .i64 kd) := zx.cell 1
            have a2 : wv.cell? ⟨w.heap.size, 2, none⟩ = some (.int .i64 x2) := zx.cell 2
            have a3 : wv.cell? ⟨w.heap.size, 3, none⟩ = some (.int .i64 x3) := zx.cell 3
            have a4 : wv.cell? ⟨w.heap.size, 4, none⟩ = some (.int .i64 x4) := zx.cell 4
            have a5 : wv.cell? ⟨w.heap.size, 5, none⟩ = some (.int .i64 x5) := zx.cell 5
            have a6 : wv.cell? ⟨w.heap.size, 6, none⟩ = some (.int .i64 x6) := zx.cell 6
            have a7 : wv.cell? ⟨w.heap.size, 7, none⟩ = some (.int .i64 x7) := zx.cell 7
            have a8 : wv.cell? ⟨w.heap.size, 8, none⟩ = some (.int .i64 x8) := zx.cell 8
            have a9 : wv.cell? ⟨w.heap.size, 9, none⟩ = some (.string it) := zx.cell 9
            have b0 : wv.cell? ⟨W.heap.size, 0, none⟩ = some (.string ⟨#[122, 122]⟩) := hbv.cell 0
            have b1 : wv.cell? ⟨W.heap.size, 1, none⟩ = some (.int .i64 kd) := hbv.cell 1
            have b2 : wv.cell? ⟨W.heap.size, 2, none⟩ = some (.int .i64 ((n : Int) + 1)) := hbv.cell 2
            have b3 : wv.cell? ⟨W.heap.size, 3, none⟩ = some (.int .i64 x3) := hbv.cell 3
            have b4 : wv.cell? ⟨W.heap.size, 4, none⟩ = some (.int .i64 x4) := hbv.cell 4
            have b5 : wv.cell? ⟨W.heap.size, 5, none⟩ = some (.int .i64 x5) := hbv.cell 5
            have b6 : wv.cell? ⟨W.heap.size, 6, none⟩ = some (.int .i64 x6) := hbv.cell 6
            have b7 : wv.cell? ⟨W.heap.size, 7, none⟩ = some (.int .i64 x7) := hbv.cell 7
            have b8 : wv.cell? ⟨W.heap.size, 8, none⟩ = some (.int .i64 x8) := hbv.cell 8
            have b9 : wv.cell? ⟨W.heap.size, 9, none⟩ = some (.string it) := hbv.cell 9
            have c0 : wv.cell? ⟨gc, 0, none⟩ = some (.string nm) := (r0 0 _ rfl).1
            have c1 : wv.cell? ⟨gc, 1, none⟩ = some (.int .i64 kd) := (r0 1 _ rfl).1
            have c2 : wv.cell? ⟨gc, 2, none⟩ = some (.int .i64 x2) := (r0 2 _ rfl).1
            have c3 : wv.cell? ⟨gc, 3, none⟩ = some (.int .i64 x3) := (r0 3 _ rfl).1
            have c4 : wv.cell? ⟨gc, 4, none⟩ = some (.int .i64 x4) := (r0 4 _ rfl).1
            have c5 : wv.cell? ⟨gc, 5, none⟩ = some (.int .i64 x5) := (r0 5 _ rfl).1
            have c6 : wv.cell? ⟨gc, 6, none⟩ = some (.int .i64 x6) := (r0 6 _ rfl).1
            have c7 : wv.cell? ⟨gc, 7, none⟩ = some (.int .i64 x7) := (r0 7 _ rfl).1
            have c8 : wv.cell? ⟨gc, 8, none⟩ = some (.int .i64 x8) := (r0 8 _ rfl).1
            have c9 : wv.cell? ⟨gc, 9, none⟩ = some (.string it) := (r0 9 _ rfl).1
            have d0 : wv.cell? ⟨gc, 10, none⟩ = some (.string ⟨#[122, 122]⟩) := (r1 0 _ rfl).1
            have d1 : wv.cell? ⟨gc, 11, none⟩ = some (.int .i64 kd) := (r1 1 _ rfl).1
            have d2 : wv.cell? ⟨gc, 12, none⟩ = some (.int .i64 ((n : Int) + 1)) := (r1 2 _ rfl).1
            have d3 : wv.cell? ⟨gc, 13, none⟩ = some (.int .i64 x3) := (r1 3 _ rfl).1
            have d4 : wv.cell? ⟨gc, 14, none⟩ = some (.int .i64 x4) := (r1 4 _ rfl).1
            have d5 : wv.cell? ⟨gc, 15, none⟩ = some (.int .i64 x5) := (r1 5 _ rfl).1
            have d6 : wv.cell? ⟨gc, 16, none⟩ = some (.int .i64 x6) := (r1 6 _ rfl).1
            have d7 : wv.cell? ⟨gc, 17, none⟩ = some (.int .i64 x7) := (r1 7 _ rfl).1
            have d8 : wv.cell? ⟨gc, 18, none⟩ = some (.int .i64 x8) := (r1 8 _ rfl).1
            have d9 : wv.cell? ⟨gc, 19, none⟩ = some (.string it) := (r1 9 _ rfl).1
            have E1 : ∀ W, (binOp .eql 42 (.agg #[.string nm, .int .i64 kd, .int .i64 x2, .int .i64 x3, .int .i64 x4, .int .i64 x5, .int .i64 x6, .int .i64 x7, .int .i64 x8, .string it]) (.agg #[.string nm, .int .i64 kd, .int .i64 x2, .int .i64 x3, .int .i64 x4, .int .i64 x5, .int .i64 x6, .int .i64 x7, .int .i64 x8, .string it])).run Tryz.prog W = .ok (.bool true) W := fun W => by
              have := con_eql ⟨nm, kd, x2, x3, x4, x5, x6, x7, x8, it⟩ ⟨nm, kd, x2, x3, x4, x5, x6, x7, x8, it⟩ W
              rw [decide_eq_true rfl] at this
              exact this
            have E2 : ∀ W, (binOp .eql 42 (.agg #[.string ⟨#[122, 122]⟩, .int .i64 kd, .int .i64 ((n : Int) + 1), .int .i64 x3, .int .i64 x4, .int .i64 x5, .int .i64 x6, .int .i64 x7, .int .i64 x8, .string it]) (.agg #[.string ⟨#[122, 122]⟩, .int .i64 kd, .int .i64 ((n : Int) + 1), .int .i64 x3, .int .i64 x4, .int .i64 x5, .int .i64 x6, .int .i64 x7, .int .i64 x8, .string it])).run Tryz.prog W = .ok (.bool true) W := fun W => by
              have := con_eql ⟨kZz, kd, (n : Int) + 1, x3, x4, x5, x6, x7, x8, it⟩ ⟨kZz, kd, (n : Int) + 1, x3, x4, x5, x6, x7, x8, it⟩ W
              rw [decide_eq_true rfl] at this
              exact this
            have HKV : Hid (Keeps (fun _ => False) w wv) := Lib.hid ((HK2.out.and_ HR2.out.1 (fun i hi e => by have := HK2.out.size; have := e.1; omega)).trans kv)
            clear zx hbv h3 h4 r0 r1 kv
            go_region_with (go_at_call 6; refine (HW.out _ HKV.out.drew).mono ?_; rintro e w9 ⟨rfl, k9⟩; have HK9 := Lib.hid (HKV.out.drew.trans k9); clear k9)
            all_goals go_wp2_with fail
            all_goals go_ret
            all_goals exact ⟨rfl, HK9.out⟩
end Go.Proofs.YtfpajgmdejlaeaaGreatDoor

/-
  ConfLike's walk over what its arguments hold.
-/
namespace Go.Proofs.YtfpajgmdejlaeaaGreatDoor
open Go.RowKit

theorem confLike_walk (w : World) (x : Con) (n : Int) (hx : ConOk x) (hn : (Lit.int .u8 n).wf = true) (hg : Ety w) : Calls Tryz.prog 5 #[.agg (conR x).toArray, .int .u8 n] w fun e w' => e = .returned (.bool true) ∧ Keeps (fun _ => False) w w' := by
  have hn0 : 0 ≤ n ∧ n ≤ 255 := by simpa [Lit.wf, IntKind.min, IntKind.max, IntKind.signed, IntKind.bits] using hn
  obtain ⟨m, rfl⟩ := Int.eq_ofNat_of_zero_le hn0.1
  refine confLike_walk0 w x m (by omega) hx.name hx.init (fun k hk => ?_) hg
  have h1 := hx.lines
  have h2 := hx.bytes
  have h3 := hx.gens
  have h4 := hx.size
  have h5 := hx.base
  have h6 := hx.cap
  have h7 := hx.jitter
  unfold IntC at h1 h2 h3 h4 h5 h6 h7
  simp only [List.mem_cons, List.not_mem_nil, or_false] at hk
  rcases hk with rfl | rfl | rfl | rfl | rfl | rfl | rfl <;> assumption
end Go.Proofs.YtfpajgmdejlaeaaGreatDoor
