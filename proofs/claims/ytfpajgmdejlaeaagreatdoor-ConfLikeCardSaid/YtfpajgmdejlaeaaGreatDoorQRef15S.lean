/-
  The document's sameness of configurations (wheelhouseref15).
-/
import Derived.Test.YtfpajgmdejlaeaaGreatDoorQConfSm
import Derived.Test.YtfpajgmdejlaeaaGreatDoorQSame10
namespace Go.Proofs.YtfpajgmdejlaeaaGreatDoor
open Go.RowKit Go.Maps

theorem take_one {α : Type} {l : List α} {j : Nat} {x : α} (h : l[j]? = some x) : l.take (j + 1) = l.take j ++ [x] := by rw [List.take_add_one, h]; rfl
set_option maxRecDepth 100000 in
set_option maxHeartbeats 8000000 in
theorem r15same_any (w : World) (S T : Nat → Prop) (cv gv uv av cv' gv' uv' av' : Value) (b0 b1 b2 b3 b4 b5 b6 b7 b8 b9 d0 d1 d2 d3 d4 d5 d6 d7 d8 d9 : ByteArray) (c d : Cf) (h : CfAt S w cv gv uv av c) (h' : CfAt T w cv' gv' uv' av' d) (hb : c.brks = [b0, b1, b2, b3, b4, b5, b6, b7, b8, b9]) (hd : d.brks = [d0, d1, d2, d3, d4, d5, d6, d7, d8, d9])
    (hc1 : CfFew c) (hd1 : CfFew d) :
    Calls Tryz.prog 9 #[.agg (cfL cv gv uv av b0 b1 b2 b3 b4 b5 b6 b7 b8 b9).toArray, .agg (cfL cv' gv' uv' av' d0 d1 d2 d3 d4 d5 d6 d7 d8 d9).toArray] w fun e w' => e = .returned (.bool (sameC c d)) ∧ Keeps (fun _ => False) w w' := by
  obtain ⟨wb, hwb⟩ : ∃ wb, wb = (w.alloc (.cells (cfL cv gv uv av b0 b1 b2 b3 b4 b5 b6 b7 b8 b9).toArray 29)).alloc (.cells (cfL cv' gv' uv' av' d0 d1 d2 d3 d4 d5 d6 d7 d8 d9).toArray 29) := ⟨_, rfl⟩
  have hk0 : Keeps (fun _ => False) w wb := by rw [hwb]; exact ((Keeps.refl _ _).alloc _).alloc _
  have hb1 : Blk wb w.heap.size 29 (cfL cv gv uv av b0 b1 b2 b3 b4 b5 b6 b7 b8 b9).toArray := by rw [hwb]; exact (Blk.new _ _ _).alloc _
  have hb2 : Blk wb (w.heap.size + 1) 29 (cfL cv' gv' uv' av' d0 d1 d2 d3 d4 d5 d6 d7 d8 d9).toArray := by rw [hwb]; exact Blk.new2 _ _ _ _
  have h1 := h.keeps hk0 (fun _ _ _ => id)
  have h2 := h'.keeps hk0 (fun _ _ _ => id)
  obtain ⟨⟨ca, cc, rfl, hc2, hc3⟩, hg, ⟨ua, uc, rfl, hu2, hu3⟩, ⟨aa, ac, rfl, ha2, ha3⟩⟩ := h1
  obtain ⟨⟨ca', cc', rfl, hc2', hc3'⟩, hg', ⟨ua', uc', rfl, hu2', hu3'⟩, ⟨aa', ac', rfl, ha2', ha3'⟩⟩ := h2
  obtain ⟨ga, gc, rfl⟩ := GrsAt.sl (S := S) (w := wb) (l := c.grps) hg
  obtain ⟨ga', gc', rfl⟩ := GrsAt.sl (S := T) (w := wb) (l := d.grps) hg'
  obtain ⟨n1, hn1⟩ : ∃ n1, n1 = c.cons.length := ⟨_, rfl⟩
  obtain ⟨n2, hn2⟩ : ∃ n2, n2 = c.grps.length := ⟨_, rfl⟩
  obtain ⟨n3, hn3⟩ : ∃ n3, n3 = c.usrs.length := ⟨_, rfl⟩
  obtain ⟨n4, hn4⟩ : ∃ n4, n4 = c.accs.length := ⟨_, rfl⟩
  obtain ⟨m1, hm1⟩ : ∃ m1, m1 = d.cons.length := ⟨_, rfl⟩
  obtain ⟨m2, hm2⟩ : ∃ m2, m2 = d.grps.length := ⟨_, rfl⟩
  obtain ⟨m3, hm3⟩ : ∃ m3, m3 = d.usrs.length := ⟨_, rfl⟩
  obtain ⟨m4, hm4⟩ : ∃ m4, m4 = d.accs.length := ⟨_, rfl⟩
  have fw1 := hc1.cons
  have fw2 := hc1.grps
  have fw3 := hc1.usrs
  have fw4 := hc1.accs
  have gw1 := hd1.cons
  have gw2 := hd1.grps
  have gw3 := hd1.usrs
  have gw4 := hd1.accs
  rw [← hn1] at hb1 hc2 hc3 fw1
  rw [← hn2] at hb1 fw2
  rw [← hn3] at hb1 hu2 hu3 fw3
  rw [← hn4] at hb1 ha2 ha3 fw4
  rw [← hm1] at hb2 hc2' hc3' gw1
  rw [← hm2] at hb2 gw2
  rw [← hm3] at hb2 hu2' hu3' gw3
  rw [← hm4] at hb2 ha2' ha3' gw4
  rw [← hn1, ← hn2, ← hn3, ← hn4, ← hm1, ← hm2, ← hm3, ← hm4] at hwb
  rw [← hn1, ← hn2, ← hn3, ← hn4, ← hm1, ← hm2, ← hm3, ← hm4]
  have hg : GrsAt S wb (.slice ga n2 gc) c.grps := by rw [hn2]; exact hg
  have hg' : GrsAt T wb (.slice ga' m2 gc') d.grps := by rw [hm2]; exact hg'
  have HLN := Lib.hid (And.intro (And.intro hn1 (And.intro hn2 (And.intro hn3 hn4))) (And.intro hm1 (And.intro hm2 (And.intro hm3 hm4))))
  have HCN : Hid (∀ W, Keeps (fun _ => False) wb W → SlAt conR 10 W ca n1 c.cons ∧ SlAt conR 10 W ca' m1 d.cons) := Lib.hid (fun W k => ⟨hc2.keepsS hc3 k (fun _ _ _ => id), hc2'.keepsS hc3' k (fun _ _ _ => id)⟩)
  have HUS : Hid (∀ W, Keeps (fun _ => False) wb W → SlAt usrR 2 W ua n3 c.usrs ∧ SlAt usrR 2 W ua' m3 d.usrs) := Lib.hid (fun W k => ⟨hu2.keepsS hu3 k (fun _ _ _ => id), hu2'.keepsS hu3' k (fun _ _ _ => id)⟩)
  have HAC : Hid (∀ W, Keeps (fun _ => False) wb W → SlAt accR 3 W aa n4 c.accs ∧ SlAt accR 3 W aa' m4 d.accs) := Lib.hid (fun W k => ⟨ha2.keepsS ha3 k (fun _ _ _ => id), ha2'.keepsS ha3' k (fun _ _ _ => id)⟩)
  have HGR : Hid (∀ W, Keeps (fun _ => False) wb W → GrsAt S W (.slice ga n2 gc) c.grps ∧ GrsAt T W (.slice ga' m2 gc') d.grps) := Lib.hid (fun W k => ⟨GrsAt.keeps hg k (fun _ _ _ => id), GrsAt.keeps hg' k (fun _ _ _ => id)⟩)
  have Y : ∀ W, Keeps (fun _ => False) wb W → (∀ i, W.cell? ⟨w.heap.size, i, none⟩ = (cfL (.slice ca n1 cc) (.slice ga n2 gc) (.slice ua n3 uc) (.slice aa n4 ac) b0 b1 b2 b3 b4 b5 b6 b7 b8 b9)[i]?) ∧ ∀ i, W.cell? ⟨w.heap.size + 1, i, none⟩ = (cfL (.slice ca' m1 cc') (.slice ga' m2 gc') (.slice ua' m3 uc') (.slice aa' m4 ac') d0 d1 d2 d3 d4 d5 d6 d7 d8 d9)[i]? := fun W k => ⟨fun i => ((hb1.keeps k id).cell i).trans List.getElem?_toArray, fun i => ((hb2.keeps k id).cell i).trans List.getElem?_toArray⟩
  have HY := Lib.hid Y
  have HWB := Lib.hid hwb
  have HK0 := Lib.hid hk0
  have HCF : Hid (sameC c d = (decide (c.cons = d.cons) && (decide (c.usrs = d.usrs) && (decide (c.accs = d.accs) && (decide (c.brks = d.brks) && decide (c.grps = d.grps)))))) := Lib.hid rfl
  have Y0 := Y wb (Keeps.refl _ _)
  have x0 : wb.cell? ⟨w.heap.size, 0, none⟩ = some (.slice ca n1 cc) := Y0.1 0
  have x1 : wb.cell? ⟨w.heap.size, 1, none⟩ = some (.slice ga n2 gc) := Y0.1 1
  have x2 : wb.cell? ⟨w.heap.size, 2, none⟩ = some (.slice ua n3 uc) := Y0.1 2
  have x3 : wb.cell? ⟨w.heap.size, 3, none⟩ = some (.slice aa n4 ac) := Y0.1 3
  have x4 : wb.cell? ⟨w.heap.size, 4, none⟩ = some (.string b0) := Y0.1 4
  have x5 : wb.cell? ⟨w.heap.size, 5, none⟩ = some (.string b1) := Y0.1 5
  have x6 : wb.cell? ⟨w.heap.size, 6, none⟩ = some (.string b2) := Y0.1 6
  have x7 : wb.cell? ⟨w.heap.size, 7, none⟩ = some (.string b3) := Y0.1 7
  have x8 : wb.cell? ⟨w.heap.size, 8, none⟩ = some (.string b4) := Y0.1 8
  have x9 : wb.cell? ⟨w.heap.size, 9, none⟩ = some (.string b5) := Y0.1 9
  have x10 : wb.cell? ⟨w.heap.size, 10, none⟩ = some (.string b6) := Y0.1 10
  have x11 : wb.cell? ⟨w.heap.size, 11, none⟩ = some (.string b7) := Y0.1 11
  have x12 : wb.cell? ⟨w.heap.size, 12, none⟩ = some (.string b8) := Y0.1 12
  have x13 : wb.cell? ⟨w.heap.size, 13, none⟩ = some (.string b9) := Y0.1 13
  have z0 : wb.cell? ⟨w.heap.size + 1, 0, none⟩ = some (.slice ca' m1 cc') := Y0.2 0
  have z1 : wb.cell? ⟨w.heap.size + 1, 1, none⟩ = some (.slice ga' m2 gc') := Y0.2 1
  have z2 : wb.cell? ⟨w.heap.size + 1, 2, none⟩ = some (.slice ua' m3 uc') := Y0.2 2
  have z3 : wb.cell? ⟨w.heap.size + 1, 3, none⟩ = some (.slice aa' m4 ac') := Y0.2 3
  have z4 : wb.cell? ⟨w.heap.size + 1, 4, none⟩ = some (.string d0) := Y0.2 4
  have z5 : wb.cell? ⟨w.heap.size + 1, 5, none⟩ = some (.string d1) := Y0.2 5
  have z6 : wb.cell? ⟨w.heap.size + 1, 6, none⟩ = some (.string d2) := Y0.2 6
  have z7 : wb.cell? ⟨w.heap.size + 1, 7, none⟩ = some (.string d3) := Y0.2 7
  have z8 : wb.cell? ⟨w.heap.size + 1, 8, none⟩ = some (.string d4) := Y0.2 8
  have z9 : wb.cell? ⟨w.heap.size + 1, 9, none⟩ = some (.string d5) := Y0.2 9
  have z10 : wb.cell? ⟨w.heap.size + 1, 10, none⟩ = some (.string d6) := Y0.2 10
  have z11 : wb.cell? ⟨w.heap.size + 1, 11, none⟩ = some (.string d7) := Y0.2 11
  have z12 : wb.cell? ⟨w.heap.size + 1, 12, none⟩ = some (.string d8) := Y0.2 12
  have z13 : wb.cell? ⟨w.heap.size + 1, 13, none⟩ = some (.string d9) := Y0.2 13
  have HBR := Lib.hid (And.intro hb hd)
  have HFW := Lib.hid (And.intro hc1 hd1)
  obtain ⟨q4, hq4⟩ : ∃ q, q = decide (c.brks = d.brks) := ⟨_, rfl⟩
  have hEQ : ∀ W, (Op.equalIn 10000 27 (.agg #[.string b0, .string b1, .string b2, .string b3, .string b4, .string b5, .string b6, .string b7, .string b8, .string b9]) (.agg #[.string d0, .string d1, .string d2, .string d3, .string d4, .string d5, .string d6, .string d7, .string d8, .string d9])).run Tryz.prog W = .ok q4 W := fun W => by
    rw [hq4, hb, hd]
    exact run_eql_strs W 27 9 10 [b0, b1, b2, b3, b4, b5, b6, b7, b8, b9] [d0, d1, d2, d3, d4, d5, d6, d7, d8, d9] Tryz.underlying27 Tryz.underlying9 (Tryz.sizeOf9 W) rfl rfl
  have HQ4 := Lib.hid hq4
  clear hn1 hn2 hn3 hn4 hm1 hm2 hm3 hm4 hq4 hwb hk0 hb1 hb2 h h' hc2 hc3 hg hu2 hu3 ha2 ha3 hc2' hc3' hg' hu2' hu3' ha2' ha3' Y Y0 hb hd hc1 hd1
  by_cases e1 : n1 = m1
  case neg =>
    have t1 : ((n1 : Int) != (m1 : Int)) = true := bne_iff_ne.2 (by omega)
    have HE : Hid (sameC c d = false) := Lib.hid (by rw [HCF.out, decide_eq_false (fun e => e1 (by rw [HLN.out.1.1, HLN.out.2.1, e]))]; rfl)
    clear e1
    go_enter Tryz.func9, Tryz.ntmps9
    go_upto_region 1 with (fail)
    rw [← HWB.out]
    go_wp2_with fail
    go_ret
    exact ⟨by rw [HE.out]; rfl, HK0.out⟩
  subst e1
  by_cases e2 : n2 = m2
  case neg =>
    have t2 : ((n2 : Int) != (m2 : Int)) = true := bne_iff_ne.2 (by omega)
    have HE : Hid (sameC c d = false) := Lib.hid (by rw [HCF.out, decide_eq_false (p := c.grps = d.grps) (fun e => e2 (by rw [HLN.out.1.2.1, HLN.out.2.2.1, e]))]; simp)
    clear e2
    go_enter Tryz.func9, Tryz.ntmps9
    go_upto_region 1 with (fail)
    rw [← HWB.out]
    go_wp2_with fail
    go_ret
    exact ⟨by rw [HE.out]; rfl, HK0.out⟩
  subst e2
  by_cases e3 : n3 = m3
  case neg =>
    have t3 : ((n3 : Int) != (m3 : Int)) = true := bne_iff_ne.2 (by omega)
    have HE : Hid (sameC c d = false) := Lib.hid (by rw [HCF.out, decide_eq_false (p := c.usrs = d.usrs) (fun e => e3 (by rw [HLN.out.1.2.2.1, HLN.out.2.2.2.1, e]))]; simp)
    clear e3
    go_enter Tryz.func9, Tryz.ntmps9
    go_upto_region 1 with (fail)
    rw [← HWB.out]
    go_wp2_with fail
    go_ret
    exact ⟨by rw [HE.out]; rfl, HK0.out⟩
  subst e3
  by_cases e4 : n4 = m4
  case neg =>
    have t4 : ((n4 : Int) != (m4 : Int)) = true := bne_iff_ne.2 (by omega)
    have HE : Hid (sameC c d = false) := Lib.hid (by rw [HCF.out, decide_eq_false (p := c.accs = d.accs) (fun e => e4 (by rw [HLN.out.1.2.2.2, HLN.out.2.2.2.2, e]))]; simp)
    go_enter Tryz.func9, Tryz.ntmps9
    go_upto_region 1 with (fail)
    rw [← HWB.out]
    go_wp2_with fail
    go_ret
    exact ⟨by rw [HE.out]; rfl, HK0.out⟩
  subst e4
  cases q4 with
  | false =>
    have HE : Hid (sameC c d = false) := Lib.hid (by rw [HCF.out, ← HQ4.out]; simp)
    go_enter Tryz.func9, Tryz.ntmps9
    go_upto_region 1 with (fail)
    rw [← HWB.out]
    go_wp2_with fail
    go_ret
    exact ⟨by rw [HE.out]; rfl, HK0.out⟩
  | true =>
    go_enter Tryz.func9, Tryz.ntmps9
    go_upto_region 1 with (fail)
    rw [← HWB.out]
    go_wp2_with fail
    go_loopw [5] (fun u5 wr => ∃ j : Nat, j ≤ n1 ∧ u5 = .int .i64 j ∧ Hid (c.cons.take j = d.cons.take j ∧ Keeps (fun _ => False) wb wr)) (fun u5 _ => n1 - (intOf u5).toNat)
    case atStart => exact ⟨0, by omega, rfl, Lib.hid ⟨by simp, Keeps.refl _ _⟩⟩
    case round =>
      obtain ⟨j, hj, rfl, HR⟩ := hrel
      have Y := HY.out wr HR.out.2
      have y0 : wr.cell? ⟨w.heap.size, 0, none⟩ = some (.slice ca n1 cc) := Y.1 0
      have y1 : wr.cell? ⟨w.heap.size + 1, 0, none⟩ = some (.slice ca' n1 cc') := Y.2 0
      clear Y
      by_cases hjn : j = n1
      · subst hjn
        have HD1 : Hid (c.cons = d.cons ∧ Keeps (fun _ => False) wb wr) := Lib.hid ⟨by
          have := HR.out.1
          rwa [HLN.out.1.1, List.take_length, ← HLN.out.1.1, HLN.out.2.1, List.take_length] at this, HR.out.2⟩
        clear HR
        have Y := HY.out wr HD1.out.2
        have x20 : wr.cell? ⟨w.heap.size, 1, none⟩ = some (.slice ga n2 gc) := Y.1 1
        clear Y
        go_wp2_with fail
        go_loopw [6] (fun u6 wr => ∃ j : Nat, j ≤ n2 ∧ u6 = .int .i64 j ∧ Hid (c.grps.take j = d.grps.take j ∧ Keeps (fun _ => False) wb wr)) (fun u6 _ => n2 - (intOf u6).toNat)
        case atStart => exact ⟨0, by omega, rfl, Lib.hid ⟨by simp, HD1.out.2⟩⟩
        case round =>
          obtain ⟨j, hj, rfl, HR⟩ := hrel
          have Y := HY.out wr HR.out.2
          have y0 : wr.cell? ⟨w.heap.size, 1, none⟩ = some (.slice ga n2 gc) := Y.1 1
          have y1 : wr.cell? ⟨w.heap.size + 1, 1, none⟩ = some (.slice ga' n2 gc') := Y.2 1
          clear Y
          by_cases hjn : j = n2
          · subst hjn
            have HD2 : Hid (c.grps = d.grps ∧ Keeps (fun _ => False) wb wr) := Lib.hid ⟨by
              have := HR.out.1
              rwa [HLN.out.1.2.1, List.take_length, ← HLN.out.1.2.1, HLN.out.2.2.1, List.take_length] at this, HR.out.2⟩
            clear HR
            have Y := HY.out wr HD2.out.2
            have x20 : wr.cell? ⟨w.heap.size, 2, none⟩ = some (.slice ua n3 uc) := Y.1 2
            clear Y
            go_wp2_with fail
            go_loopw [7] (fun u7 wr => ∃ j : Nat, j ≤ n3 ∧ u7 = .int .i64 j ∧ Hid (c.usrs.take j = d.usrs.take j ∧ Keeps (fun _ => False) wb wr)) (fun u7 _ => n3 - (intOf u7).toNat)
            case atStart => exact ⟨0, by omega, rfl, Lib.hid ⟨by simp, HD2.out.2⟩⟩
            case round =>
              obtain ⟨j, hj, rfl, HR⟩ := hrel
              have Y := HY.out wr HR.out.2
              have y0 : wr.cell? ⟨w.heap.size, 2, none⟩ = some (.slice ua n3 uc) := Y.1 2
              have y1 : wr.cell? ⟨w.heap.size + 1, 2, none⟩ = some (.slice ua' n3 uc') := Y.2 2
              clear Y
              by_cases hjn : j = n3
              · subst hjn
                have HD3 : Hid (c.usrs = d.usrs ∧ Keeps (fun _ => False) wb wr) := Lib.hid ⟨by
                  have := HR.out.1
                  rwa [HLN.out.1.2.2.1, List.take_length, ← HLN.out.1.2.2.1, HLN.out.2.2.2.1, List.take_length] at this, HR.out.2⟩
                clear HR
                have Y := HY.out wr HD3.out.2
                have x20 : wr.cell? ⟨w.heap.size, 3, none⟩ = some (.slice aa n4 ac) := Y.1 3
                clear Y
                go_wp2_with fail
                go_loopw [8] (fun u8 wr => ∃ j : Nat, j ≤ n4 ∧ u8 = .int .i64 j ∧ Hid (c.accs.take j = d.accs.take j ∧ Keeps (fun _ => False) wb wr)) (fun u8 _ => n4 - (intOf u8).toNat)
                case atStart => exact ⟨0, by omega, rfl, Lib.hid ⟨by simp, HD3.out.2⟩⟩
                case round =>
                  obtain ⟨j, hj, rfl, HR⟩ := hrel
                  have Y := HY.out wr HR.out.2
                  have y0 : wr.cell? ⟨w.heap.size, 3, none⟩ = some (.slice aa n4 ac) := Y.1 3
                  have y1 : wr.cell? ⟨w.heap.size + 1, 3, none⟩ = some (.slice aa' n4 ac') := Y.2 3
                  clear Y
                  by_cases hjn : j = n4
                  · subst hjn
                    have HD4 : Hid (c.accs = d.accs ∧ Keeps (fun _ => False) wb wr) := Lib.hid ⟨by
                      have := HR.out.1
                      rwa [HLN.out.1.2.2.2, List.take_length, ← HLN.out.1.2.2.2, HLN.out.2.2.2.2, List.take_length] at this, HR.out.2⟩
                    clear HR
                    have HE : Hid (sameC c d = true) := Lib.hid (by rw [HCF.out, decide_eq_true HD1.out.1, decide_eq_true HD2.out.1, decide_eq_true HD3.out.1, decide_eq_true HD4.out.1, ← HQ4.out]; rfl)
                    go_wp2_with fail
                    go_ret
                    exact ⟨by rw [HE.out]; rfl, HK0.out.trans HD4.out.2⟩
                  · have hjl : j < n4 := by omega
                    have hj0 : (0 : Int) ≤ j := by omega
                    have hj1 : (j : Int) < n4 := by omega
                    obtain ⟨s1, s2⟩ := HAC.out wr HR.out.2
                    obtain ⟨x, hx⟩ : ∃ x, c.accs[j]? = some x := ⟨_, List.getElem?_eq_getElem (by rw [s1.1]; exact hjl)⟩
                    obtain ⟨y, hy⟩ : ∃ y, d.accs[j]? = some y := ⟨_, List.getElem?_eq_getElem (by rw [s2.1]; exact hjl)⟩
                    obtain ⟨ba, oa, rfl, hba, -⟩ := s1.2 (by omega)
                    obtain ⟨bb, ob, rfl, hbb, -⟩ := s2.2 (by omega)
                    have v0 : wr.cell? ⟨ba, oa + j * 3, none⟩ = some (.string x.con) := s1.cells hx 0 _ rfl
                    have u0' : wr.cell? ⟨bb, ob + j * 3, none⟩ = some (.string y.con) := s2.cells hy 0 _ rfl
                    have v1 : wr.cell? ⟨ba, oa + j * 3 + 1, none⟩ = some (.string x.user) := s1.cells hx 1 _ rfl
                    have u1' : wr.cell? ⟨bb, ob + j * 3 + 1, none⟩ = some (.string y.user) := s2.cells hy 1 _ rfl
                    have v2 : wr.cell? ⟨ba, oa + j * 3 + 2, none⟩ = some (.int .i64 x.level) := s1.cells hx 2 _ rfl
                    have u2' : wr.cell? ⟨bb, ob + j * 3 + 2, none⟩ = some (.int .i64 y.level) := s2.cells hy 2 _ rfl
                    have hw1 : IntKind.i64.wrap ((j : Int) + 1) = ((j + 1 : Nat) : Int) := by rw [wrap_in (by omega) (by omega)]; omega
                    have hne : ∀ W, (binOp .neq 46 (.agg #[.string x.con, .string x.user, .int .i64 x.level]) (.agg #[.string y.con, .string y.user, .int .i64 y.level])).run Tryz.prog W = .ok (.bool (!decide (x = y))) W := fun W => acc_neq.1 x y W
                    obtain ⟨eb, heb⟩ : ∃ eb, eb = decide (x = y) := ⟨_, rfl⟩
                    rw [← heb] at hne
                    have HEB := Lib.hid heb
                    have HXJ := Lib.hid hx
                    have HYJ := Lib.hid hy
                    clear heb s1 s2 hx hy
                    cases eb with
                    | true =>
                      have HTK : Hid (c.accs.take (j + 1) = d.accs.take (j + 1)) := Lib.hid (by
                        have e := of_decide_eq_true HEB.out.symm
                        rw [take_one HXJ.out, take_one HYJ.out, HR.out.1, e])
                      go_wp2_with fail
                      all_goals go_region
                      all_goals go_wp2_with fail
                      all_goals exact ⟨⟨j + 1, by omega, by go_num, Lib.hid ⟨HTK.out, by first | exact HR.out.2 | exact HR.out.2.drew⟩⟩, by simp only [intOf]; omega⟩
                    | false =>
                      have HE : Hid (sameC c d = false) := Lib.hid (by
                        have hn : ¬ c.accs = d.accs := fun e => of_decide_eq_false HEB.out.symm (by
                          have h1 := HXJ.out
                          rw [e, HYJ.out] at h1
                          injection h1 with h1
                          exact h1.symm)
                        rw [HCF.out, decide_eq_false (p := c.accs = d.accs) hn]; simp)
                      go_wp2_with fail
                      all_goals go_region
                      all_goals go_wp2_with fail
                      all_goals go_ret
                      all_goals exact ⟨by rw [HE.out]; rfl, HK0.out.trans (by first | exact HR.out.2 | exact HR.out.2.drew)⟩
              · have hjl : j < n3 := by omega
                have hj0 : (0 : Int) ≤ j := by omega
                have hj1 : (j : Int) < n3 := by omega
                obtain ⟨s1, s2⟩ := HUS.out wr HR.out.2
                obtain ⟨x, hx⟩ : ∃ x, c.usrs[j]? = some x := ⟨_, List.getElem?_eq_getElem (by rw [s1.1]; exact hjl)⟩
                obtain ⟨y, hy⟩ : ∃ y, d.usrs[j]? = some y := ⟨_, List.getElem?_eq_getElem (by rw [s2.1]; exact hjl)⟩
                obtain ⟨ba, oa, rfl, hba, -⟩ := s1.2 (by omega)
                obtain ⟨bb, ob, rfl, hbb, -⟩ := s2.2 (by omega)
                have v0 : wr.cell? ⟨ba, oa + j * 2, none⟩ = some (.string x.name) := s1.cells hx 0 _ rfl
                have u0' : wr.cell? ⟨bb, ob + j * 2, none⟩ = some (.string y.name) := s2.cells hy 0 _ rfl
                have v1 : wr.cell? ⟨ba, oa + j * 2 + 1, none⟩ = some (.string x.pass) := s1.cells hx 1 _ rfl
                have u1' : wr.cell? ⟨bb, ob + j * 2 + 1, none⟩ = some (.string y.pass) := s2.cells hy 1 _ rfl
                have hw1 : IntKind.i64.wrap ((j : Int) + 1) = ((j + 1 : Nat) : Int) := by rw [wrap_in (by omega) (by omega)]; omega
                have hne : ∀ W, (binOp .neq 67 (.agg #[.string x.name, .string x.pass]) (.agg #[.string y.name, .string y.pass])).run Tryz.prog W = .ok (.bool (!decide (x = y))) W := fun W => usr_neq.1 x y W
                obtain ⟨eb, heb⟩ : ∃ eb, eb = decide (x = y) := ⟨_, rfl⟩
                rw [← heb] at hne
                have HEB := Lib.hid heb
                have HXJ := Lib.hid hx
                have HYJ := Lib.hid hy
                clear heb s1 s2 hx hy
                cases eb with
                | true =>
                  have HTK : Hid (c.usrs.take (j + 1) = d.usrs.take (j + 1)) := Lib.hid (by
                    have e := of_decide_eq_true HEB.out.symm
                    rw [take_one HXJ.out, take_one HYJ.out, HR.out.1, e])
                  go_wp2_with fail
                  all_goals go_region
                  all_goals go_wp2_with fail
                  all_goals exact ⟨⟨j + 1, by omega, by go_num, Lib.hid ⟨HTK.out, by first | exact HR.out.2 | exact HR.out.2.drew⟩⟩, by simp only [intOf]; omega⟩
                | false =>
                  have HE : Hid (sameC c d = false) := Lib.hid (by
                    have hn : ¬ c.usrs = d.usrs := fun e => of_decide_eq_false HEB.out.symm (by
                      have h1 := HXJ.out
                      rw [e, HYJ.out] at h1
                      injection h1 with h1
                      exact h1.symm)
                    rw [HCF.out, decide_eq_false (p := c.usrs = d.usrs) hn]; simp)
                  go_wp2_with fail
                  all_goals go_region
                  all_goals go_wp2_with fail
                  all_goals go_ret
                  all_goals exact ⟨by rw [HE.out]; rfl, HK0.out.trans (by first | exact HR.out.2 | exact HR.out.2.drew)⟩
          · have hjl : j < n2 := by omega
            have hj0 : (0 : Int) ≤ j := by omega
            have hj1 : (j : Int) < n2 := by omega
            obtain ⟨s1, s2⟩ := HGR.out wr HR.out.2
            obtain ⟨x, hx⟩ : ∃ x, c.grps[j]? = some x := ⟨_, List.getElem?_eq_getElem (by rw [← HLN.out.1.2.1]; exact hjl)⟩
            obtain ⟨y, hy⟩ : ∃ y, d.grps[j]? = some y := ⟨_, List.getElem?_eq_getElem (by rw [← HLN.out.2.2.1]; exact hjl)⟩
            obtain ⟨ba, oa, ⟨rn, ra, rk, rc⟩, rfl, hba, v0, v1, m1⟩ := s1.at_ hx
            obtain ⟨bb, ob, ⟨qn, qa, qk, qc⟩, rfl, hbb, u0', u1', m2⟩ := s2.at_ hy
            obtain ⟨e1, a1, i1⟩ := m1
            obtain ⟨e2, a2, i2⟩ := m2
            simp only at v0 v1 u0' u1' e1 a1 i1 e2 a2 i2
            have hw1 : IntKind.i64.wrap ((j : Int) + 1) = ((j + 1 : Nat) : Int) := by rw [wrap_in (by omega) (by omega)]; omega
            have hpx := HFW.out.1.pats x (List.mem_of_getElem? hx)
            have hpy := HFW.out.2.pats y (List.mem_of_getElem? hy)
            have l1 := a1.1
            have l2 := a2.1
            have HM : Hid (∀ W, Keeps (fun _ => False) wr W → Calls Tryz.prog 27 #[.slice ra rk rc, .slice qa qk qc] W fun e w' => e = .returned (.bool (decide (x.pats = y.pats))) ∧ Keeps (fun _ => False) W w') := Lib.hid (fun W k => same10_all W ra qa rk qk rc qc _ _ (a1.keepsS i1 k (fun _ _ _ => id)) (a2.keepsS i2 k (fun _ _ _ => id)) (by omega) (by omega))
            have CL : ∀ W, Keeps (fun _ => False) wr W → ((W.cell? ⟨w.heap.size, 1, none⟩ = some (.slice (some ⟨ba, oa, none⟩) n2 gc) ∧ W.cell? ⟨w.heap.size + 1, 1, none⟩ = some (.slice (some ⟨bb, ob, none⟩) n2 gc')) ∧ (W.cell? ⟨ba, oa + j * 2, none⟩ = some (.string rn) ∧ W.cell? ⟨ba, oa + j * 2 + 1, none⟩ = some (.slice ra rk rc)) ∧ W.cell? ⟨bb, ob + j * 2, none⟩ = some (.string qn) ∧ W.cell? ⟨bb, ob + j * 2 + 1, none⟩ = some (.slice qa qk qc)) := fun W k => ⟨⟨(HY.out W (HR.out.2.trans k)).1 1, (HY.out W (HR.out.2.trans k)).2 1⟩, ⟨(World.cell?_of_block (w := wr) (k.block ba hba id)).trans v0, (World.cell?_of_block (w := wr) (k.block ba hba id)).trans v1⟩, (World.cell?_of_block (w := wr) (k.block bb hbb id)).trans u0', (World.cell?_of_block (w := wr) (k.block bb hbb id)).trans u1'⟩
            have HCL := Lib.hid CL
            have HE12 := Lib.hid (And.intro e1 e2)
            have HXJ := Lib.hid hx
            have HYJ := Lib.hid hy
            clear CL hx hy s1 s2 a1 a2 i1 i2 e1 e2
            have HNE : Hid (¬ x = y → sameC c d = false) := Lib.hid (fun hn0 => by
              have hn : ¬ c.grps = d.grps := fun e => hn0 (by
                have h1 := HXJ.out
                rw [e, HYJ.out] at h1
                injection h1 with h1
                exact h1.symm)
              rw [HCF.out, decide_eq_false (p := c.grps = d.grps) hn]; simp)
            by_cases hn : rn = qn
            · have hs1 : (rn.toList == qn.toList) = true := by rw [str_eq_b]; exact decide_eq_true hn
              have hs2 : (rn.toList != qn.toList) = false := by unfold bne; rw [hs1]; rfl
              have HN := Lib.hid hn
              clear hn
              obtain ⟨eb, heb⟩ : ∃ eb, eb = decide (x.pats = y.pats) := ⟨_, rfl⟩
              rw [← heb] at HM
              have HEB := Lib.hid heb
              clear heb
              go_upto_region 11 with (fail)
              go_region_held3 (fun W => ((W.cell? ⟨w.heap.size, 1, none⟩ = some (.slice (some ⟨ba, oa, none⟩) n2 gc) ∧ W.cell? ⟨w.heap.size + 1, 1, none⟩ = some (.slice (some ⟨bb, ob, none⟩) n2 gc')) ∧ (W.cell? ⟨ba, oa + j * 2, none⟩ = some (.string rn) ∧ W.cell? ⟨ba, oa + j * 2 + 1, none⟩ = some (.slice ra rk rc)) ∧ W.cell? ⟨bb, ob + j * 2, none⟩ = some (.string qn) ∧ W.cell? ⟨bb, ob + j * 2 + 1, none⟩ = some (.slice qa qk qc)) ∧ Keeps (fun _ => False) wr W)
                ((refine both15 (HCL.out _) ?_; first | exact (Keeps.refl _ _).drew | exact kk))
                (first | (go_at_call 27; rename_i hh _ _; have hk := hh.2; refine (HM.out _ hk).mono ?_; rintro e w3 ⟨rfl, k3⟩; have kk := hk.trans k3))
              have HKK : Hid (Keeps (fun _ => False) wb w3) := Lib.hid (HR.out.2.trans kk)
              cases eb with
              | true =>
                have HTK : Hid (c.grps.take (j + 1) = d.grps.take (j + 1)) := Lib.hid (by
                  have e : x = y := by
                    have e1 := HE12.out.1
                    have e2 := HE12.out.2
                    have e3 := of_decide_eq_true HEB.out.symm
                    have e4 := HN.out
                    cases x; cases y
                    simp only at e1 e2 e3
                    rw [← e1, ← e2, e3, e4]
                  rw [take_one HXJ.out, take_one HYJ.out, HR.out.1, e])
                go_wp2_with fail
                exact ⟨⟨j + 1, by omega, by go_num, Lib.hid ⟨HTK.out, HKK.out⟩⟩, by simp only [intOf]; omega⟩
              | false =>
                have HE : Hid (sameC c d = false) := Lib.hid (HNE.out (fun e => of_decide_eq_false HEB.out.symm (by rw [e])))
                go_wp2_with fail
                go_ret
                exact ⟨by rw [HE.out]; rfl, HK0.out.trans HKK.out⟩
            · have hs1 : (rn.toList == qn.toList) = false := by rw [str_eq_b]; exact decide_eq_false hn
              have hs2 : (rn.toList != qn.toList) = true := by unfold bne; rw [hs1]; rfl
              have HE : Hid (sameC c d = false) := Lib.hid (HNE.out (fun e => hn (by rw [HE12.out.1, HE12.out.2, e])))
              clear hn
              go_wp2_with fail
              all_goals go_region
              all_goals go_wp2_with fail
              all_goals go_ret
              all_goals exact ⟨by rw [HE.out]; rfl, HK0.out.trans (by first | exact HR.out.2 | exact HR.out.2.drew)⟩
      · have hjl : j < n1 := by omega
        have hj0 : (0 : Int) ≤ j := by omega
        have hj1 : (j : Int) < n1 := by omega
        obtain ⟨s1, s2⟩ := HCN.out wr HR.out.2
        obtain ⟨x, hx⟩ : ∃ x, c.cons[j]? = some x := ⟨_, List.getElem?_eq_getElem (by rw [s1.1]; exact hjl)⟩
        obtain ⟨y, hy⟩ : ∃ y, d.cons[j]? = some y := ⟨_, List.getElem?_eq_getElem (by rw [s2.1]; exact hjl)⟩
        obtain ⟨ba, oa, rfl, hba, -⟩ := s1.2 (by omega)
        obtain ⟨bb, ob, rfl, hbb, -⟩ := s2.2 (by omega)
        have v0 : wr.cell? ⟨ba, oa + j * 10, none⟩ = some (.string x.name) := s1.cells hx 0 _ rfl
        have u0' : wr.cell? ⟨bb, ob + j * 10, none⟩ = some (.string y.name) := s2.cells hy 0 _ rfl
        have v1 : wr.cell? ⟨ba, oa + j * 10 + 1, none⟩ = some (.int .i64 x.kind) := s1.cells hx 1 _ rfl
        have u1' : wr.cell? ⟨bb, ob + j * 10 + 1, none⟩ = some (.int .i64 y.kind) := s2.cells hy 1 _ rfl
        have v2 : wr.cell? ⟨ba, oa + j * 10 + 2, none⟩ = some (.int .i64 x.lines) := s1.cells hx 2 _ rfl
        have u2' : wr.cell? ⟨bb, ob + j * 10 + 2, none⟩ = some (.int .i64 y.lines) := s2.cells hy 2 _ rfl
        have v3 : wr.cell? ⟨ba, oa + j * 10 + 3, none⟩ = some (.int .i64 x.bytes) := s1.cells hx 3 _ rfl
        have u3' : wr.cell? ⟨bb, ob + j * 10 + 3, none⟩ = some (.int .i64 y.bytes) := s2.cells hy 3 _ rfl
        have v4 : wr.cell? ⟨ba, oa + j * 10 + 4, none⟩ = some (.int .i64 x.gens) := s1.cells hx 4 _ rfl
        have u4' : wr.cell? ⟨bb, ob + j * 10 + 4, none⟩ = some (.int .i64 y.gens) := s2.cells hy 4 _ rfl
        have v5 : wr.cell? ⟨ba, oa + j * 10 + 5, none⟩ = some (.int .i64 x.size) := s1.cells hx 5 _ rfl
        have u5' : wr.cell? ⟨bb, ob + j * 10 + 5, none⟩ = some (.int .i64 y.size) := s2.cells hy 5 _ rfl
        have v6 : wr.cell? ⟨ba, oa + j * 10 + 6, none⟩ = some (.int .i64 x.base) := s1.cells hx 6 _ rfl
        have u6' : wr.cell? ⟨bb, ob + j * 10 + 6, none⟩ = some (.int .i64 y.base) := s2.cells hy 6 _ rfl
        have v7 : wr.cell? ⟨ba, oa + j * 10 + 7, none⟩ = some (.int .i64 x.cap) := s1.cells hx 7 _ rfl
        have u7' : wr.cell? ⟨bb, ob + j * 10 + 7, none⟩ = some (.int .i64 y.cap) := s2.cells hy 7 _ rfl
        have v8 : wr.cell? ⟨ba, oa + j * 10 + 8, none⟩ = some (.int .i64 x.jitter) := s1.cells hx 8 _ rfl
        have u8' : wr.cell? ⟨bb, ob + j * 10 + 8, none⟩ = some (.int .i64 y.jitter) := s2.cells hy 8 _ rfl
        have v9 : wr.cell? ⟨ba, oa + j * 10 + 9, none⟩ = some (.string x.init) := s1.cells hx 9 _ rfl
        have u9' : wr.cell? ⟨bb, ob + j * 10 + 9, none⟩ = some (.string y.init) := s2.cells hy 9 _ rfl
        have hw1 : IntKind.i64.wrap ((j : Int) + 1) = ((j + 1 : Nat) : Int) := by rw [wrap_in (by omega) (by omega)]; omega
        have hne : ∀ W, (binOp .neq 42 (.agg #[.string x.name, .int .i64 x.kind, .int .i64 x.lines, .int .i64 x.bytes, .int .i64 x.gens, .int .i64 x.size, .int .i64 x.base, .int .i64 x.cap, .int .i64 x.jitter, .string x.init]) (.agg #[.string y.name, .int .i64 y.kind, .int .i64 y.lines, .int .i64 y.bytes, .int .i64 y.gens, .int .i64 y.size, .int .i64 y.base, .int .i64 y.cap, .int .i64 y.jitter, .string y.init])).run Tryz.prog W = .ok (.bool (!decide (x = y))) W := fun W => con_neq.1 x y W
        obtain ⟨eb, heb⟩ : ∃ eb, eb = decide (x = y) := ⟨_, rfl⟩
        rw [← heb] at hne
        have HEB := Lib.hid heb
        have HXJ := Lib.hid hx
        have HYJ := Lib.hid hy
        clear heb s1 s2 hx hy
        cases eb with
        | true =>
          have HTK : Hid (c.cons.take (j + 1) = d.cons.take (j + 1)) := Lib.hid (by
            have e := of_decide_eq_true HEB.out.symm
            rw [take_one HXJ.out, take_one HYJ.out, HR.out.1, e])
          go_wp2_with fail
          all_goals go_region
          all_goals go_wp2_with fail
          all_goals exact ⟨⟨j + 1, by omega, by go_num, Lib.hid ⟨HTK.out, by first | exact HR.out.2 | exact HR.out.2.drew⟩⟩, by simp only [intOf]; omega⟩
        | false =>
          have HE : Hid (sameC c d = false) := Lib.hid (by
            have hn : ¬ c.cons = d.cons := fun e => of_decide_eq_false HEB.out.symm (by
              have h1 := HXJ.out
              rw [e, HYJ.out] at h1
              injection h1 with h1
              exact h1.symm)
            rw [HCF.out, decide_eq_false (p := c.cons = d.cons) hn]; simp)
          go_wp2_with fail
          all_goals go_region
          all_goals go_wp2_with fail
          all_goals go_ret
          all_goals exact ⟨by rw [HE.out]; rfl, HK0.out.trans (by first | exact HR.out.2 | exact HR.out.2.drew)⟩
end Go.Proofs.YtfpajgmdejlaeaaGreatDoor
