/-
  conf.Print.
-/
import Derived.Test.YtfpajgmdejlaeaaGreatDoorQConfPa
import Derived.Test.YtfpajgmdejlaeaaGreatDoorQConfZ
import Derived.Test.YtfpajgmdejlaeaaGreatDoorQGround2
namespace Go.Proofs.YtfpajgmdejlaeaaGreatDoor
open Go.RowKit Go.Maps

theorem told_open (w : World) (x : Con) (hx : ∀ n ∈ [x.lines, x.bytes, x.gens, x.size, x.base, x.cap, x.jitter], -9223372036854775808 ≤ n ∧ n ≤ 9223372036854775807) :
    Calls Tryz.prog 24 #[.agg #[.string x.name, .int .i64 x.kind, .int .i64 x.lines, .int .i64 x.bytes, .int .i64 x.gens, .int .i64 x.size, .int .i64 x.base, .int .i64 x.cap, .int .i64 x.jitter, .string x.init]] w fun e w' => (∃ rk ra rn rc rb rla rln rlc rli, e = .returned (.agg #[.string rk, .slice ra rn rc, .bool rb, .slice rla rln rlc, .int .i64 rli]) ∧ NdM w' (fun i => w.heap.size ≤ i) (toldN x) ⟨rk, ra, rn, rc, rb, rla, rln, rlc, rli⟩) ∧ Keeps (fun _ => False) w w' := by
  refine (told_any w x hx).mono ?_
  rintro e w' ⟨⟨⟨rk, ra, rn, rc, rb, rla, rln, rlc, rli⟩, rfl, hm⟩, k⟩
  exact ⟨⟨rk, ra, rn, rc, rb, rla, rln, rlc, rli, rfl, hm⟩, k⟩
theorem brkNds_snoc : ∀ (l : List ByteArray) (i : Int) (s : ByteArray), brkNds i (l ++ [s]) = brkNds i l ++ (if s.size = 0 then [] else [oneN kBreak [digS (i + l.length), s]])
  | [], i, s => by
    rw [List.nil_append, brkNds, brkNds, brkNds]
    split <;> simp
  | a :: l, i, s => by
    rw [List.cons_append, brkNds, brkNds, brkNds_snoc l (i + 1) s]
    have e : i + 1 + (l.length : Int) = i + ((a :: l).length : Int) := by rw [List.length_cons]; omega
    rw [e]
    split
    · rfl
    · simp
theorem brk_len : ∀ (l : List ByteArray) (i : Int), (brkNds i l).length ≤ l.length
  | [], i => by rw [brkNds]; exact Nat.le_refl _
  | a :: l, i => by
    have := brk_len l (i + 1)
    rw [brkNds]
    split
    · rw [List.length_cons]; omega
    · rw [List.length_cons, List.length_cons]; omega
set_option maxRecDepth 100000 in
set_option maxHeartbeats 16000000 in
theorem cprint_any (w : World) (S : Nat → Prop) (cv gv uv av : Value) (b0 b1 b2 b3 b4 b5 b6 b7 b8 b9 : ByteArray) (c : Cf) (h : CfAt S w cv gv uv av c) (hbrk : c.brks = [b0, b1, b2, b3, b4, b5, b6, b7, b8, b9]) (hS : ∀ i, S i → i < w.heap.size)
    (hl : c.cons.length ≤ 1048576 ∧ c.grps.length ≤ 1048576 ∧ c.usrs.length ≤ 1048576 ∧ c.accs.length ≤ 1048576)
    (hi : ∀ x ∈ c.cons, ∀ n ∈ [x.lines, x.bytes, x.gens, x.size, x.base, x.cap, x.jitter], -9223372036854775808 ≤ n ∧ n ≤ 9223372036854775807) (hp : ∀ x ∈ c.grps, x.pats.length ≤ 16383)
    (hf : fineL (nodesC c)) (hc : costL (nodesC c) 0 ≤ 1099511627776) :
    Calls Tryz.prog 8 #[.agg (cfL cv gv uv av b0 b1 b2 b3 b4 b5 b6 b7 b8 b9).toArray] w fun e w' => e = .returned (.string (str (printC c))) ∧ Keeps (fun _ => False) w w' := by
  obtain ⟨wa, hwa⟩ : ∃ wa, wa = w.alloc (.cells (cfL cv gv uv av b0 b1 b2 b3 b4 b5 b6 b7 b8 b9).toArray 29) := ⟨_, rfl⟩
  obtain ⟨wb, hwb⟩ : ∃ wb, wb = wa.alloc (.cells #[.slice none 0 0] 50) := ⟨_, rfl⟩
  have hka : Keeps (fun _ => False) w wa := by rw [hwa]; exact (Keeps.refl _ _).alloc _
  have hk0 : Keeps (fun _ => False) wa wb := by rw [hwb]; exact (Keeps.refl _ _).alloc _
  have hb1 : Blk wa w.heap.size 29 (cfL cv gv uv av b0 b1 b2 b3 b4 b5 b6 b7 b8 b9).toArray := by rw [hwa]; exact Blk.new _ _ _
  have hsz : wa.heap.size = w.heap.size + 1 := by rw [hwa, World.size_alloc]
  have hb2 : Blk wb (w.heap.size + 1) 50 #[.slice none 0 0] := by rw [hwb, ← hsz]; exact Blk.new _ _ _
  have hpr : Pr wa wb (w.heap.size + 1) (.slice none 0 0) [] := ⟨hb2, hk0, by omega, fun _ => False, NdsOwn.none_, id⟩
  have hB : ∀ W, Keeps (fun _ => False) wa W → ∀ i, W.cell? ⟨w.heap.size, i, none⟩ = (cfL cv gv uv av b0 b1 b2 b3 b4 b5 b6 b7 b8 b9)[i]? := fun W k i => ((hb1.keeps k id).cell i).trans List.getElem?_toArray
  have HAT : Hid (∀ W, Keeps (fun _ => False) wa W → CfAt S W cv gv uv av c) := Lib.hid (fun W k => h.keeps (hka.trans k) (fun _ _ _ => id))
  have HKA := Lib.hid hka
  have HWB : Hid (wb = (w.alloc (.cells (cfL cv gv uv av b0 b1 b2 b3 b4 b5 b6 b7 b8 b9).toArray 29)).alloc (.cells #[.slice none 0 0] 50)) := Lib.hid (by rw [hwb, hwa])
  have HPR := Lib.hid hpr
  have HB := Lib.hid hB
  have HH : Hid (c.brks = [b0, b1, b2, b3, b4, b5, b6, b7, b8, b9] ∧ (∀ i, S i → i < w.heap.size) ∧ (∀ x ∈ c.cons, ∀ n ∈ [x.lines, x.bytes, x.gens, x.size, x.base, x.cap, x.jitter], -9223372036854775808 ≤ n ∧ n ≤ 9223372036854775807) ∧ (∀ x ∈ c.grps, x.pats.length ≤ 16383) ∧ fineL (nodesC c) ∧ costL (nodesC c) 0 ≤ 1099511627776) := Lib.hid ⟨hbrk, hS, hi, hp, hf, hc⟩
  have Y := HB.out wb hk0
  have y0 : wb.cell? ⟨w.heap.size, 0, none⟩ = some cv := Y 0
  have y4 : wb.cell? ⟨w.heap.size, 4, none⟩ = some (.string b0) := Y 4
  have y5 : wb.cell? ⟨w.heap.size, 5, none⟩ = some (.string b1) := Y 5
  have y6 : wb.cell? ⟨w.heap.size, 6, none⟩ = some (.string b2) := Y 6
  have y7 : wb.cell? ⟨w.heap.size, 7, none⟩ = some (.string b3) := Y 7
  have y8 : wb.cell? ⟨w.heap.size, 8, none⟩ = some (.string b4) := Y 8
  have y9 : wb.cell? ⟨w.heap.size, 9, none⟩ = some (.string b5) := Y 9
  have y10 : wb.cell? ⟨w.heap.size, 10, none⟩ = some (.string b6) := Y 10
  have y11 : wb.cell? ⟨w.heap.size, 11, none⟩ = some (.string b7) := Y 11
  have y12 : wb.cell? ⟨w.heap.size, 12, none⟩ = some (.string b8) := Y 12
  have y13 : wb.cell? ⟨w.heap.size, 13, none⟩ = some (.string b9) := Y 13
  clear hwb hwa hk0 hka hb1 hb2 hpr hB h hbrk hS hi hp hf hc Y
  go_enter Tryz.func8, Tryz.ntmps8
  go_upto_region 2 with (fail)
  rw [← HWB.out]
  go_wp2_with fail
  go_loopw [21] (fun u21 wr => ∃ (k : Nat) (v : Value), k ≤ 10 ∧ u21 = .int .i64 k ∧ Hid (Pr wa wr (w.heap.size + 1) v (brkNds 0 (c.brks.take k)))) (fun u21 _ => 10 - (intOf u21).toNat)
  case atStart => exact ⟨0, _, by omega, rfl, HPR⟩
  case round =>
    obtain ⟨k, v, hk, rfl, HP⟩ := hrel
    by_cases hk10 : k = 10
    · subst hk10
      have hp1 := HP.out
      rw [show c.brks.take 10 = c.brks by rw [HH.out.1]; rfl] at hp1
      have HP1 := Lib.hid hp1
      have Y := HB.out wr hp1.frame
      have y0 : wr.cell? ⟨w.heap.size, 0, none⟩ = some cv := Y 0
      have HLB : Hid ((brkNds 0 c.brks).length ≤ 10) := Lib.hid (Nat.le_trans (brk_len _ _) (by rw [HH.out.1]; simp))
      clear hp1 HP Y
      obtain ⟨ca, cc, hcv, -, -⟩ := (HAT.out wr HP1.out.frame).cons
      have HCV := Lib.hid hcv
      subst hcv
      have hn0 : (c.cons.length : Int) ≤ 1048576 := by omega
      go_wp2_with fail
      go_loopw [37] (fun u37 wr => ∃ (j : Nat) (v : Value), j ≤ c.cons.length ∧ u37 = .int .i64 j ∧ Hid (Pr wa wr (w.heap.size + 1) v (brkNds 0 c.brks ++ (c.cons.take j).map toldN))) (fun u37 _ => c.cons.length - (intOf u37).toNat)
      case atStart => exact ⟨0, _, by omega, rfl, by rw [List.take_zero, List.map_nil, List.append_nil]; exact HP1⟩
      case round =>
        obtain ⟨j, v1, hj, rfl, HPJ⟩ := hrel
        by_cases hjn : j = c.cons.length
        · subst hjn
          have hp2 := HPJ.out
          rw [List.take_length] at hp2
          obtain ⟨NB, hNB⟩ : ∃ NB, NB = brkNds 0 c.brks ++ c.cons.map toldN := ⟨_, rfl⟩
          rw [← hNB] at hp2
          have HNB := Lib.hid hNB
          have HNL : Hid (NB.length ≤ 1048586) := Lib.hid (by have := HLB.out; rw [hNB, List.length_append, List.length_map]; omega)
          have y1 : wr.cell? ⟨w.heap.size, 1, none⟩ = some gv := HB.out wr hp2.frame 1
          have HP2 := Lib.hid hp2
          clear hp2 hNB HPJ
          obtain ⟨rs, ⟨ga, gc, hgv, -, -⟩, hgl, -⟩ := (HAT.out wr HP2.out.frame).grps
          subst hgv
          rw [← hgl] at y1
          have hn1 : (c.grps.length : Int) ≤ 1048576 := by omega
          clear hgl
          go_wp2_with fail
          go_loopw [52] (fun u52 wr => ∃ (j : Nat) (v : Value), j ≤ c.grps.length ∧ u52 = .int .i64 j ∧ Hid (Pr wa wr (w.heap.size + 1) v (NB ++ (c.grps.take j).map grpN))) (fun u52 _ => c.grps.length - (intOf u52).toNat)
          case atStart => exact ⟨0, _, by omega, rfl, by rw [List.take_zero, List.map_nil, List.append_nil]; exact HP2⟩
          case round =>
            obtain ⟨j, v2, hj, rfl, HPG⟩ := hrel
            by_cases hjn : j = c.grps.length
            · subst hjn
              have hp3 := HPG.out
              rw [List.take_length] at hp3
              obtain ⟨NC, hNC⟩ : ∃ NC, NC = NB ++ c.grps.map grpN := ⟨_, rfl⟩
              rw [← hNC] at hp3
              have HNC := Lib.hid hNC
              have HNCL : Hid (NC.length ≤ 2097162) := Lib.hid (by have := HNL.out; rw [hNC, List.length_append, List.length_map]; omega)
              have y2 : wr.cell? ⟨w.heap.size, 2, none⟩ = some uv := HB.out wr hp3.frame 2
              have HP3 := Lib.hid hp3
              clear hp3 hNC HPG
              obtain ⟨ua, uc, huv, -, -⟩ := (HAT.out wr HP3.out.frame).usrs
              subst huv
              have hn2 : (c.usrs.length : Int) ≤ 1048576 := by omega
              go_wp2_with fail
              go_loopw [68] (fun u68 wr => ∃ (j : Nat) (v : Value), j ≤ c.usrs.length ∧ u68 = .int .i64 j ∧ Hid (Pr wa wr (w.heap.size + 1) v (NC ++ (c.usrs.take j).map usrN))) (fun u68 _ => c.usrs.length - (intOf u68).toNat)
              case atStart => exact ⟨0, _, by omega, rfl, by rw [List.take_zero, List.map_nil, List.append_nil]; exact HP3⟩
              case round =>
                obtain ⟨j, v3, hj, rfl, HPU⟩ := hrel
                by_cases hjn : j = c.usrs.length
                · subst hjn
                  have hp4 := HPU.out
                  rw [List.take_length] at hp4
                  obtain ⟨ND, hND⟩ : ∃ ND, ND = NC ++ c.usrs.map usrN := ⟨_, rfl⟩
                  rw [← hND] at hp4
                  have HND := Lib.hid hND
                  have HNDL : Hid (ND.length ≤ 3145738) := Lib.hid (by have := HNCL.out; rw [hND, List.length_append, List.length_map]; omega)
                  have y3 : wr.cell? ⟨w.heap.size, 3, none⟩ = some av := HB.out wr hp4.frame 3
                  have HP4 := Lib.hid hp4
                  clear hp4 hND HPU
                  obtain ⟨aa, ac, hav, -, -⟩ := (HAT.out wr HP4.out.frame).accs
                  subst hav
                  have hn3 : (c.accs.length : Int) ≤ 1048576 := by omega
                  go_wp2_with fail
                  go_loopw [83] (fun u83 wr => ∃ (j : Nat) (v : Value), j ≤ c.accs.length ∧ u83 = .int .i64 j ∧ Hid (Pr wa wr (w.heap.size + 1) v (ND ++ (c.accs.take j).map accN))) (fun u83 _ => c.accs.length - (intOf u83).toNat)
                  case atStart => exact ⟨0, _, by omega, rfl, by rw [List.take_zero, List.map_nil, List.append_nil]; exact HP4⟩
                  case round =>
                    obtain ⟨j, v4, hj, rfl, HPA⟩ := hrel
                    by_cases hjn : j = c.accs.length
                    · subst hjn
                      have hp5 := HPA.out
                      rw [List.take_length] at hp5
                      have hN : ND ++ c.accs.map accN = nodesC c := by rw [HND.out, HNC.out, HNB.out]; rfl
                      rw [hN] at hp5
                      have yl := hp5.cell
                      have HP5 := Lib.hid hp5
                      obtain ⟨-, hk5, -, S5, hN5, -⟩ := hp5
                      have HTP := Lib.hid (tprint_any wr _ v4 (nodesC c) hN5.at_ (fun i hi => by
                        rcases hi with hi | hi
                        · obtain ⟨_, _, _, _, h4⟩ := hN5; exact (h4 i hi).2
                        · exact (hN5.lt i hi).2) HH.out.2.2.2.2.1 HH.out.2.2.2.2.2)
                      obtain ⟨la, lc, rfl⟩ := hN5.sl
                      have HK5 := Lib.hid hk5
                      clear hk5 hN hN5 HPA
                      go_wp2_with fail
                      refine HTP.out.mono ?_
                      rintro e w9 ⟨rfl, k9⟩
                      have HK9 := Lib.hid ((HKA.out.trans HK5.out).trans k9)
                      clear k9
                      have HPC : Hid (printC c = (putL (nodesC c) 0).getD []) := Lib.hid rfl
                      cases hpl : putL (nodesC c) 0 with
                      | none =>
                        have HE : Hid (printC c = []) := Lib.hid (by rw [HPC.out, hpl]; rfl)
                        clear hpl
                        unfold printV
                        go_wp2_with fail
                        go_ret
                        exact ⟨by rw [HE.out]; rfl, HK9.out⟩
                      | some tx =>
                        have HE : Hid (printC c = tx) := Lib.hid (by rw [HPC.out, hpl]; rfl)
                        clear hpl
                        unfold printV
                        go_wp2_with fail
                        go_ret
                        exact ⟨by rw [HE.out]; rfl, HK9.out⟩
                    · have hjl : j < c.accs.length := by omega
                      have hj0 : (0 : Int) ≤ j := by omega
                      have hj1 : (j : Int) < c.accs.length := by omega
                      obtain ⟨x, hx⟩ : ∃ x, c.accs[j]? = some x := ⟨_, List.getElem?_eq_getElem hjl⟩
                      obtain ⟨aa', ac', hav', hsl, -⟩ := (HAT.out _ HPA.out.frame).accs
                      injection hav' with e1 _ e2
                      subst e1 e2
                      obtain ⟨ab, ao, rfl, hab, -⟩ := hsl.2 (by omega)
                      have z0 := hsl.cells hx 0 _ rfl
                      have z1 := hsl.cells hx 1 _ rfl
                      have z2 := hsl.cells hx 2 _ rfl
                      rw [Nat.add_zero] at z0
                      have hw1 : IntKind.i64.wrap ((j : Int) + 1) = ((j + 1 : Nat) : Int) := by rw [wrap_in (by omega) (by omega)]; omega
                      have HTJ : Hid (ND ++ (c.accs.take (j + 1)).map accN = ND ++ (c.accs.take j).map accN ++ [oneN kAccess [x.con, x.user, levelW x.level]]) := Lib.hid (by rw [List.take_add_one, hx]; simp; rfl)
                      clear hsl hx
                      go_upto_region 27 with (fail)
                      obtain ⟨wx, hwx⟩ : ∃ wx, wx = wr.alloc (.cells #[.string x.con, .string x.user, .int .i64 x.level] 46) := ⟨_, rfl⟩
                      have hkx : Keeps (fun _ => False) wr wx := by rw [hwx]; exact (Keeps.refl _ _).alloc _
                      have hbx : Blk wx wr.heap.size 46 #[.string x.con, .string x.user, .int .i64 x.level] := by rw [hwx]; exact Blk.new _ _ _
                      have HKX := Lib.hid hkx
                      have HBX := Lib.hid hbx
                      have x2 : wx.cell? ⟨wr.heap.size, 2, none⟩ = some (.int .i64 x.level) := hbx.cell 2
                      rw [← hwx]
                      clear hwx hkx hbx
                      have HX2 : Hid (∀ W, Keeps (fun _ => False) wx W → W.cell? ⟨wr.heap.size, 2, none⟩ = some (.int .i64 x.level)) := Lib.hid (fun W k => (HBX.out.keeps k id).cell 2)
                      go_upto_region 28 with (fail)
                      go_cut [15, 96] (fun s15 s96 wy => ∃ bb : Bool, s15 = .string ⟨#[]⟩ ∧ s96 = .bool bb ∧ Hid (bb = decide (0 ≤ x.level ∧ x.level < 4) ∧ Keeps (fun _ => False) wx wy))
                      case first =>
                        by_cases h0 : 0 ≤ x.level
                        · have hd0 : decide (0 ≤ x.level) = true := decide_eq_true h0
                          go_region_held3 (fun W => W.cell? ⟨wr.heap.size, 2, none⟩ = some (.int .i64 x.level) ∧ Keeps (fun _ => False) wx W)
                            ((refine both15 (HX2.out _) ?_; first | exact (Keeps.refl _ _).drew | exact kk))
                            (first | (go_at_call 25; rename_i hh _ _; have hk := hh.2; refine (levels_any _).mono ?_; rintro e w3 ⟨⟨kb, rfl, hkb⟩, k3⟩; have kk := hk.trans k3))
                          all_goals (go_wp2_with fail; go_meet)
                          all_goals exact ⟨_, rfl, rfl, Lib.hid ⟨by simp [h0], kk⟩⟩
                        · have hd0 : decide (0 ≤ x.level) = false := decide_eq_false h0
                          go_region
                          all_goals (go_wp2_with fail; go_meet)
                          all_goals exact ⟨_, rfl, rfl, Lib.hid ⟨(decide_eq_false (by omega)).symm, (Keeps.refl _ _).drew⟩⟩
                      case rest =>
                        obtain ⟨bb, rfl, rfl, HYB⟩ := hcut
                        have HBB := Lib.hid HYB.out.1
                        have HY := Lib.hid HYB.out.2
                        have hsy := HY.out.size
                        go_upto_if 96 with (fail)
                        go_cut [15] (fun s15 wy => s15 = .string (levelW x.level) ∧ Hid (Keeps (fun _ => False) wx wy))
                        case first =>
                          have hcs : (¬ (0 ≤ x.level ∧ x.level < 4)) ∨ x.level = 0 ∨ x.level = 1 ∨ x.level = 2 ∨ x.level = 3 := by omega
                          rcases hcs with hlv | hlv | hlv | hlv | hlv
                          · obtain rfl : bb = false := HBB.out.trans (decide_eq_false hlv)
                            have HLW : Hid (levelW x.level = ⟨#[]⟩) := Lib.hid (by unfold levelW; rw [if_neg hlv])
                            clear hlv
                            go_wp2_with fail
                            go_meet
                            exact ⟨by rw [HLW.out], HY⟩
                          · obtain rfl : bb = true := HBB.out.trans (decide_eq_true (by omega))
                            have HLW : Hid (levelW x.level = levels15.getD 0 ⟨#[]⟩) := Lib.hid (by rw [hlv]; rfl)
                            have HX3 : Hid (∀ W, Keeps (fun _ => False) wc W → W.cell? ⟨wr.heap.size, 2, none⟩ = some (.int .i64 0)) := Lib.hid (fun W k => by rw [← hlv]; exact HX2.out W (HY.out.trans k))
                            clear hlv
                            go_upto_region 29 with (fail)
                            have x0 := HX3.out wc (Keeps.refl _ _)
                            go_region_with (go_at_call 25; refine (levels_any _).mono ?_; rintro e w3 ⟨⟨kb, rfl, hkb⟩, k3⟩; have kk : Keeps (fun _ => False) wc w3 := k3.from_drew; have x3 := HX3.out w3 kk; have kc := slat_cell hkb 0 _ rfl)
                            all_goals (go_wp2_with fail; go_meet)
                            all_goals exact ⟨by rw [HLW.out]; rfl, Lib.hid (HY.out.trans kk)⟩
                          · obtain rfl : bb = true := HBB.out.trans (decide_eq_true (by omega))
                            have HLW : Hid (levelW x.level = levels15.getD 1 ⟨#[]⟩) := Lib.hid (by rw [hlv]; rfl)
                            have HX3 : Hid (∀ W, Keeps (fun _ => False) wc W → W.cell? ⟨wr.heap.size, 2, none⟩ = some (.int .i64 1)) := Lib.hid (fun W k => by rw [← hlv]; exact HX2.out W (HY.out.trans k))
                            clear hlv
                            go_upto_region 29 with (fail)
                            have x0 := HX3.out wc (Keeps.refl _ _)
                            go_region_with (go_at_call 25; refine (levels_any _).mono ?_; rintro e w3 ⟨⟨kb, rfl, hkb⟩, k3⟩; have kk : Keeps (fun _ => False) wc w3 := k3.from_drew; have x3 := HX3.out w3 kk; have kc := slat_cell hkb 1 _ rfl)
                            all_goals (go_wp2_with fail; go_meet)
                            all_goals exact ⟨by rw [HLW.out]; rfl, Lib.hid (HY.out.trans kk)⟩
                          · obtain rfl : bb = true := HBB.out.trans (decide_eq_true (by omega))
                            have HLW : Hid (levelW x.level = levels15.getD 2 ⟨#[]⟩) := Lib.hid (by rw [hlv]; rfl)
                            have HX3 : Hid (∀ W, Keeps (fun _ => False) wc W → W.cell? ⟨wr.heap.size, 2, none⟩ = some (.int .i64 2)) := Lib.hid (fun W k => by rw [← hlv]; exact HX2.out W (HY.out.trans k))
                            clear hlv
                            go_upto_region 29 with (fail)
                            have x0 := HX3.out wc (Keeps.refl _ _)
                            go_region_with (go_at_call 25; refine (levels_any _).mono ?_; rintro e w3 ⟨⟨kb, rfl, hkb⟩, k3⟩; have kk : Keeps (fun _ => False) wc w3 := k3.from_drew; have x3 := HX3.out w3 kk; have kc := slat_cell hkb 2 _ rfl)
                            all_goals (go_wp2_with fail; go_meet)
                            all_goals exact ⟨by rw [HLW.out]; rfl, Lib.hid (HY.out.trans kk)⟩
                          · obtain rfl : bb = true := HBB.out.trans (decide_eq_true (by omega))
                            have HLW : Hid (levelW x.level = levels15.getD 3 ⟨#[]⟩) := Lib.hid (by rw [hlv]; rfl)
                            have HX3 : Hid (∀ W, Keeps (fun _ => False) wc W → W.cell? ⟨wr.heap.size, 2, none⟩ = some (.int .i64 3)) := Lib.hid (fun W k => by rw [← hlv]; exact HX2.out W (HY.out.trans k))
                            clear hlv
                            go_upto_region 29 with (fail)
                            have x0 := HX3.out wc (Keeps.refl _ _)
                            go_region_with (go_at_call 25; refine (levels_any _).mono ?_; rintro e w3 ⟨⟨kb, rfl, hkb⟩, k3⟩; have kk : Keeps (fun _ => False) wc w3 := k3.from_drew; have x3 := HX3.out w3 kk; have kc := slat_cell hkb 3 _ rfl)
                            all_goals (go_wp2_with fail; go_meet)
                            all_goals exact ⟨by rw [HLW.out]; rfl, Lib.hid (HY.out.trans kk)⟩
                        case rest =>
                          obtain ⟨rfl, HY2⟩ := hcut
                          have hb2 := HBX.out.keeps HY2.out id
                          have q0 : wc.cell? ⟨wr.heap.size, 0, none⟩ = some (.string x.con) := hb2.cell 0
                          have q1 : wc.cell? ⟨wr.heap.size, 1, none⟩ = some (.string x.user) := hb2.cell 1
                          have HK9 := Lib.hid (HKX.out.trans HY2.out)
                          clear hb2
                          go_wp2_with fail
                          refine (Pr.putNew (w1 := wc) HPA.out HK9.out kAccess [x.con, x.user, levelW x.level] (Nat.le_of_ble_eq_true rfl) (by have := HNDL.out; simp only [List.length_append, List.length_map, List.length_take]; omega)).mono ?_
                          rintro e w8 ⟨rfl, v8, hp8⟩
                          have HP8 := Lib.hid hp8
                          clear hp8
                          go_wp2_with fail
                          exact ⟨⟨j + 1, v8, by omega, by go_num, by rw [HTJ.out]; exact HP8⟩, by simp only [intOf]; omega⟩
                · have hjl : j < c.usrs.length := by omega
                  have hj0 : (0 : Int) ≤ j := by omega
                  have hj1 : (j : Int) < c.usrs.length := by omega
                  obtain ⟨x, hx⟩ : ∃ x, c.usrs[j]? = some x := ⟨_, List.getElem?_eq_getElem hjl⟩
                  obtain ⟨ua', uc', huv', hsl, -⟩ := (HAT.out _ HPU.out.frame).usrs
                  injection huv' with e1 _ e2
                  subst e1 e2
                  obtain ⟨ub, uo, rfl, hub, -⟩ := hsl.2 (by omega)
                  have z0 := hsl.cells hx 0 _ rfl
                  have z1 := hsl.cells hx 1 _ rfl
                  rw [Nat.add_zero] at z0
                  have hw1 : IntKind.i64.wrap ((j : Int) + 1) = ((j + 1 : Nat) : Int) := by rw [wrap_in (by omega) (by omega)]; omega
                  have HTJ : Hid (NC ++ (c.usrs.take (j + 1)).map usrN = NC ++ (c.usrs.take j).map usrN ++ [oneN kUser [x.name, x.pass]]) := Lib.hid (by rw [List.take_add_one, hx]; simp; rfl)
                  clear hsl hx
                  go_upto_region 22 with (fail)
                  obtain ⟨wx, hwx⟩ : ∃ wx, wx = wr.alloc (.cells #[.string x.name, .string x.pass] 67) := ⟨_, rfl⟩
                  have hkx : Keeps (fun _ => False) wr wx := by rw [hwx]; exact (Keeps.refl _ _).alloc _
                  have hbx : Blk wx wr.heap.size 67 #[.string x.name, .string x.pass] := by rw [hwx]; exact Blk.new _ _ _
                  have x0 : wx.cell? ⟨wr.heap.size, 0, none⟩ = some (.string x.name) := hbx.cell 0
                  have x1 : wx.cell? ⟨wr.heap.size, 1, none⟩ = some (.string x.pass) := hbx.cell 1
                  have HKX := Lib.hid hkx
                  rw [← hwx]
                  clear hwx hkx hbx
                  go_wp2_with fail
                  refine (Pr.putNew (w1 := wx) HPU.out HKX.out kUser [x.name, x.pass] (Nat.le_of_ble_eq_true rfl) (by have := HNCL.out; simp only [List.length_append, List.length_map, List.length_take]; omega)).mono ?_
                  rintro e w8 ⟨rfl, v8, hp8⟩
                  have HP8 := Lib.hid hp8
                  clear hp8
                  go_wp2_with fail
                  exact ⟨⟨j + 1, v8, by omega, by go_num, by rw [HTJ.out]; exact HP8⟩, by simp only [intOf]; omega⟩
            · have hjl : j < c.grps.length := by omega
              have hj0 : (0 : Int) ≤ j := by omega
              have hj1 : (j : Int) < c.grps.length := by omega
              obtain ⟨x, hx⟩ : ∃ x, c.grps[j]? = some x := ⟨_, List.getElem?_eq_getElem hjl⟩
              obtain ⟨rs2, ⟨ga', gc', hgv', hsl, -⟩, hlen, hM⟩ := (HAT.out _ HPG.out.frame).grps
              obtain ⟨r, hr⟩ : ∃ r, rs2[j]? = some r := ⟨_, List.getElem?_eq_getElem (by omega)⟩
              obtain ⟨hrn, hra, hri⟩ := hM j x r hx hr
              injection hgv' with e1 e3 e2
              subst e1 e2
              clear e3
              obtain ⟨gb, go, rfl, hgb, -⟩ := hsl.2 (by rw [← hlen]; omega)
              have z0 := hsl.cells hr 0 _ rfl
              have z1 := hsl.cells hr 1 _ rfl
              rw [Nat.add_zero] at z0
              have hpl := HH.out.2.2.2.1 x (List.mem_of_getElem? hx)
              have hw1 : IntKind.i64.wrap ((j : Int) + 1) = ((j + 1 : Nat) : Int) := by rw [wrap_in (by omega) (by omega)]; omega
              have HTJ : Hid (NB ++ (c.grps.take (j + 1)).map grpN = NB ++ (c.grps.take j).map grpN ++ [oneN kGroup ([x.name] ++ x.pats)]) := Lib.hid (by rw [List.take_add_one, hx]; simp; rfl)
              have HRA := Lib.hid hra
              have HRI := Lib.hid hri
              have hrl := hra.1
              clear hsl hM hx hr hra hri hlen
              obtain ⟨rname, rpa, rpn, rpc⟩ := r
              simp only at hrn hrl HRA HRI
              subst hrn
              go_upto_region 17 with (fail)
              obtain ⟨wx, hwx⟩ : ∃ wx, wx = wr.alloc (.cells #[.string x.name, .slice rpa rpn rpc] 65) := ⟨_, rfl⟩
              have hkx : Keeps (fun _ => False) wr wx := by rw [hwx]; exact (Keeps.refl _ _).alloc _
              have hbx : Blk wx wr.heap.size 65 #[.string x.name, .slice rpa rpn rpc] := by rw [hwx]; exact Blk.new _ _ _
              have x0 : wx.cell? ⟨wr.heap.size, 0, none⟩ = some (.string x.name) := hbx.cell 0
              have x1 : wx.cell? ⟨wr.heap.size, 1, none⟩ = some (.slice rpa rpn rpc) := hbx.cell 1
              have x1a : ∀ o, (wx.alloc o).cell? ⟨wr.heap.size, 1, none⟩ = some (.slice rpa rpn rpc) := fun o => (hbx.alloc o).cell 1
              have hsx := hbx.lt
              have HKX := Lib.hid hkx
              rw [← hwx]
              clear hwx hkx hbx
              go_wp2_with (with_reducible show wpList _ _ _ (⟨some 62, _, _, _, _, _⟩ :: _) _ _; go_must (refine wpList_append_src strR 1 strR_len15 (by decide) rfl _ _ _ rfl wx.heap.size 9 (.string ⟨#[]⟩) 16 Tryz.underlying58 (by kernel_rfl) rfl (by omega) (.slice (some ⟨wx.heap.size, 0, none⟩) 1 1) [x.name] rfl (OwnS.newStr _ _) (.slice rpa rpn rpc) x.pats rfl (SrcS.of_slat (HRA.out.keepsS HRI.out (HKX.out.alloc _) (fun _ _ _ => id))) strR_one15 (by simp only [List.length_cons, List.length_nil]; omega) (by simp) ?_; intro v7 w7 O7 k7; have HO7 := Lib.hid O7; have HK7 : Hid (Keeps (fun _ => False) wr w7) := Lib.hid ((HKX.out.alloc _).and_ k7 (fun i hi h => by have := h.1; omega)); clear O7 k7))
              obtain ⟨a7, c7, hv7, r1, r2, r3, r4⟩ := HO7.out.rowV
              rw [hv7]
              refine (Pr.put HPG.out HK7.out kGroup ([x.name] ++ x.pats) a7 c7 ⟨r1, r2.mono (fun i hi => ⟨by have := HKX.out.size; omega, hi.2⟩), r3, r4⟩ (by have := HNL.out; simp only [List.length_append, List.length_map, List.length_take]; omega)).mono ?_
              rintro e w8 ⟨rfl, v8, hp8⟩
              have HP8 := Lib.hid hp8
              clear hp8 hv7 r1 r2 r3 r4
              go_wp2_with fail
              exact ⟨⟨j + 1, v8, by omega, by go_num, by rw [HTJ.out]; exact HP8⟩, by simp only [intOf]; omega⟩
        · have hjl : j < c.cons.length := by omega
          have hj0 : (0 : Int) ≤ j := by omega
          have hj1 : (j : Int) < c.cons.length := by omega
          obtain ⟨x, hx⟩ : ∃ x, c.cons[j]? = some x := ⟨_, List.getElem?_eq_getElem hjl⟩
          obtain ⟨ca', cc', hcv', hsl, -⟩ := (HAT.out _ HPJ.out.frame).cons
          injection hcv' with e1 _ e2
          subst e1 e2
          obtain ⟨cb, co, rfl, hcb, -⟩ := hsl.2 (by omega)
          have hcs := con_cells hsl hx
          have z0 := hcs 0 _ rfl
          have z1 := hcs 1 _ rfl
          have z2 := hcs 2 _ rfl
          have z3 := hcs 3 _ rfl
          have z4 := hcs 4 _ rfl
          have z5 := hcs 5 _ rfl
          have z6 := hcs 6 _ rfl
          have z7 := hcs 7 _ rfl
          have z8 := hcs 8 _ rfl
          have z9 := hcs 9 _ rfl
          rw [Nat.add_zero] at z0
          have hw1 : IntKind.i64.wrap ((j : Int) + 1) = ((j + 1 : Nat) : Int) := by rw [wrap_in (by omega) (by omega)]; omega
          clear hcs hsl
          go_upto_region 11 with (fail)
          go_cut [8] (fun s8 wx => ∃ q, s8 = .pointer (some ⟨q, 0, none⟩) ∧ Hid (Blk wx q 42 (conR x).toArray ∧ Keeps (fun _ => False) wr wx ∧ wr.heap.size ≤ q))
          case first =>
            go_wp2_with fail
            go_meet
            exact ⟨_, rfl, Lib.hid ⟨Blk.new _ _ _, (Keeps.refl _ _).alloc _, Nat.le_refl _⟩⟩
          case rest =>
            obtain ⟨q, rfl, HQ⟩ := hcut
            have HTJ : Hid (brkNds 0 c.brks ++ (c.cons.take (j + 1)).map toldN = brkNds 0 c.brks ++ (c.cons.take j).map toldN ++ [toldN x]) := Lib.hid (by rw [List.take_add_one, hx]; simp)
            obtain ⟨hbp, hk, hpw, S0, ⟨rs, o1, o2, o3, o4⟩, hSp⟩ := HPJ.out.keeps HQ.out.2.1
            have hrl := NdAll.len _ _ o2
            have hxl : rs.length ≤ 1099511 := by
              have := HLB.out
              rw [← hrl, List.length_append, List.length_map, List.length_take]
              omega
            obtain ⟨va, vc, rfl⟩ := o1.sl
            have hlow : ∀ k, (Value.slice va rs.length vc).ownBlock = some k → wa.heap.size ≤ k ∧ k < wc.heap.size := World.ownsRow.lt o1
            have hpc := hbp.lt
            have hm0 : (0 : Int) ≤ (rs.length : Int) := by omega
            have hm1 : (rs.length : Int) < (rs.length : Int) + 1 := by omega
            have HOW : Hid (∀ W, Keeps (fun _ => False) wc W → OwnS ndR 5 W wa.heap.size 60 (Value.slice va rs.length vc) rs) := Lib.hid (fun W k => o1.keeps k (fun _ _ _ _ => id))
            have HPN : Hid (∀ i, (Value.slice va rs.length vc).ownBlock = some i → i ≠ w.heap.size + 1) := Lib.hid (fun i hi e => by
              obtain ⟨cs, hb⟩ := o1.ownBlk i hi
              exact Blk.ne_ hb hbp (by decide) e)
            have HBP := Lib.hid hbp
            have HST : Hid (Keeps (fun _ => False) wa wc ∧ wa.heap.size ≤ w.heap.size + 1 ∧ (∀ k, (Value.slice va rs.length vc).ownBlock = some k → wa.heap.size ≤ k ∧ k < wc.heap.size) ∧ NdAll wc S0 (brkNds 0 c.brks ++ (c.cons.take j).map toldN) rs ∧ (∀ k, (Value.slice va rs.length vc).ownBlock = some k → ¬ S0 k) ∧ (∀ i, S0 i → wa.heap.size ≤ i ∧ i < wc.heap.size) ∧ ¬ S0 (w.heap.size + 1)) := Lib.hid ⟨hk, hpw, hlow, o2, o3, o4, hSp⟩
            have hbs := hk.size
            have YP : ∀ W, Keeps (fun _ => False) wc W → W.cell? ⟨w.heap.size + 1, 0, none⟩ = some (Value.slice va rs.length vc) := fun W k => (HBP.out.keeps k id).cell 0
            have HYP := Lib.hid YP
            have yp := YP wc (Keeps.refl _ _)
            have hq := HQ.out.1
            have z0 : wc.cell? ⟨q, 0, none⟩ = some (.string x.name) := hq.cell 0
            have z1 : wc.cell? ⟨q, 1, none⟩ = some (.int .i64 x.kind) := hq.cell 1
            have z2 : wc.cell? ⟨q, 2, none⟩ = some (.int .i64 x.lines) := hq.cell 2
            have z3 : wc.cell? ⟨q, 3, none⟩ = some (.int .i64 x.bytes) := hq.cell 3
            have z4 : wc.cell? ⟨q, 4, none⟩ = some (.int .i64 x.gens) := hq.cell 4
            have z5 : wc.cell? ⟨q, 5, none⟩ = some (.int .i64 x.size) := hq.cell 5
            have z6 : wc.cell? ⟨q, 6, none⟩ = some (.int .i64 x.base) := hq.cell 6
            have z7 : wc.cell? ⟨q, 7, none⟩ = some (.int .i64 x.cap) := hq.cell 7
            have z8 : wc.cell? ⟨q, 8, none⟩ = some (.int .i64 x.jitter) := hq.cell 8
            have z9 : wc.cell? ⟨q, 9, none⟩ = some (.string x.init) := hq.cell 9
            have hqa := fun o => hq.alloc o
            have za0 : ∀ o, (wc.alloc o).cell? ⟨q, 0, none⟩ = some (.string x.name) := fun o => (hqa o).cell 0
            have za1 : ∀ o, (wc.alloc o).cell? ⟨q, 1, none⟩ = some (.int .i64 x.kind) := fun o => (hqa o).cell 1
            have za2 : ∀ o, (wc.alloc o).cell? ⟨q, 2, none⟩ = some (.int .i64 x.lines) := fun o => (hqa o).cell 2
            have za3 : ∀ o, (wc.alloc o).cell? ⟨q, 3, none⟩ = some (.int .i64 x.bytes) := fun o => (hqa o).cell 3
            have za4 : ∀ o, (wc.alloc o).cell? ⟨q, 4, none⟩ = some (.int .i64 x.gens) := fun o => (hqa o).cell 4
            have za5 : ∀ o, (wc.alloc o).cell? ⟨q, 5, none⟩ = some (.int .i64 x.size) := fun o => (hqa o).cell 5
            have za6 : ∀ o, (wc.alloc o).cell? ⟨q, 6, none⟩ = some (.int .i64 x.base) := fun o => (hqa o).cell 6
            have za7 : ∀ o, (wc.alloc o).cell? ⟨q, 7, none⟩ = some (.int .i64 x.cap) := fun o => (hqa o).cell 7
            have za8 : ∀ o, (wc.alloc o).cell? ⟨q, 8, none⟩ = some (.int .i64 x.jitter) := fun o => (hqa o).cell 8
            have za9 : ∀ o, (wc.alloc o).cell? ⟨q, 9, none⟩ = some (.string x.init) := fun o => (hqa o).cell 9
            have ypa : ∀ o, (wc.alloc o).cell? ⟨w.heap.size + 1, 0, none⟩ = some (Value.slice va rs.length vc) := fun o => YP _ ((Keeps.refl _ _).alloc _)
            clear hqa
            have HTO := Lib.hid (fun W => told_open W x (HH.out.2.2.1 x (List.mem_of_getElem? hx)))
            clear hk hpw hlow o2 o3 o4 hSp o1 hrl YP hq hbp hx
            go_upto_region 12 with (fail)
            go_region_law (first
              | (refine step_append_st ndR 5 ndR_len (by decide) (by rfl) _ _ _ (by rfl) wa.heap.size 60 (.agg #[.string ⟨#[]⟩, .slice none 0 0, .bool false, .slice none 0 0, .int .i64 0]) 80 Tryz.underlying50 (by kernel_rfl) (by rfl) (by omega) (Value.slice va rs.length vc) rs (by rfl) (HOW.out _ (by (repeat (first | (with_reducible assumption) | (with_reducible exact Keeps.refl _ _) | refine Keeps.drew ?_ | refine Keeps.drewN ?_ _ | refine Keeps.setCell ?_ (by simp) _ | refine Keeps.setRow ?_ (by simp) _ | refine Keeps.alloc ?_ _)))) _ 1 zeroV (by rfl) (by first | exact Blk.new _ _ _ | exact bn) zeroV_one (by omega) (by first | omega | (simp; omega)) ?_
                 intro g7 cap7 w7 O7 k7 hat7
                 have kk7 : Keeps (fun i => (Value.slice va rs.length vc).ownBlock = some i) wc w7 := Keeps.and_ (Keeps.none_ (by (repeat (first | (with_reducible assumption) | (with_reducible exact Keeps.refl _ _) | refine Keeps.drew ?_ | refine Keeps.drewN ?_ _ | refine Keeps.setCell ?_ (by simp) _ | refine Keeps.setRow ?_ (by simp) _ | refine Keeps.alloc ?_ _)))) k7 (fun i _ h => h)
                 have k37 : Keeps (fun i => (Value.slice va rs.length vc).ownBlock = some i) w3 w7 := Keeps.and_ (Keeps.none_ (by (repeat (first | (with_reducible assumption) | (with_reducible exact Keeps.refl _ _) | refine Keeps.drew ?_ | refine Keeps.drewN ?_ _ | refine Keeps.setCell ?_ (by simp) _ | refine Keeps.setRow ?_ (by simp) _ | refine Keeps.alloc ?_ _)))) k7 (fun i _ h => h)
                 clear k7
                 obtain ⟨c0, f0⟩ := O7.lastCells rfl 0 _ rfl
                 obtain ⟨c1, f1⟩ := O7.lastCells rfl 1 _ rfl
                 obtain ⟨c2, f2⟩ := O7.lastCells rfl 2 _ rfl
                 obtain ⟨c3, f3⟩ := O7.lastCells rfl 3 _ rfl
                 obtain ⟨c4, f4⟩ := O7.lastCells rfl 4 _ rfl
                 rw [Nat.add_zero] at c0 f0
                 have hp7 := HBP.out.keeps kk7 (fun h => HPN.out _ h rfl)
                 have e0 : w7.cell? ⟨w.heap.size + 1, 0, none⟩ = some (Value.slice va rs.length vc) := hp7.cell 0
                 have e1 : w7.frozen? ⟨w.heap.size + 1, 0, none⟩ = false := hp7.frozen 0
                 obtain ⟨_, hb7⟩ := O7.ownBlk g7 rfl
                 have ne7 : g7 ≠ w.heap.size + 1 := Blk.ne_ hb7 hp7 (by decide)
                 have hg7 : (Value.slice va rs.length vc).ownBlock = some g7 ∨ w3.heap.size ≤ g7 := by rcases hat7 with h | h; exact .inl h; right; first | omega | (simp at h; omega)
                 have ksz := k37.size
                 have HD := Lib.hid (fun W hW => Pr.told_done (W := W) hp7 HST.out.1 HST.out.2.1 hpc HST.out.2.2.1 HST.out.2.2.2.1 HST.out.2.2.2.2.1 HST.out.2.2.2.2.2.1 HST.out.2.2.2.2.2.2 kk7 O7 ne7 (hg7.imp id (fun h => by omega)) (HM.out.keeps k37 (fun i _ hi h => by have := (HST.out.2.2.1 i h).2; have := hi.1; omega)) (fun i hi => ⟨hi.1, by have := hi.2; omega, fun e => by subst e; rcases hg7 with h | h; exact absurd (HST.out.2.2.1 _ h).2 (by have := hi.1; omega); exact absurd hi.2 (by omega)⟩) hW)
                 clear hp7 hb7 O7 hat7 hg7)
              | (go_simp
                 (try go_at_call 24)
                 refine (HTO.out _).mono ?_
                 rintro e w3 ⟨⟨rk, ra, rn, rc, rb, rla, rln, rlc, rli, rfl, hm⟩, k3⟩
                 have kt : Keeps (fun _ => False) wc w3 := Keeps.trans (by (repeat (first | (with_reducible assumption) | (with_reducible exact Keeps.refl _ _) | refine Keeps.drew ?_ | refine Keeps.drewN ?_ _ | refine Keeps.setCell ?_ (by simp) _ | refine Keeps.setRow ?_ (by simp) _ | refine Keeps.alloc ?_ _))) k3
                 have kts := kt.size
                 have HM : Hid (NdM w3 (fun i => wc.heap.size ≤ i ∧ i < w3.heap.size) (toldN x) ⟨rk, ra, rn, rc, rb, rla, rln, rlc, rli⟩) := Lib.hid ((NdM.lt _ _ hm).mono (fun i h => ⟨by have := h.1; first | omega | (simp at this; omega), h.2⟩))
                 have y3 := HYP.out w3 kt
                 have y3a : ∀ o, (w3.alloc o).cell? ⟨w.heap.size + 1, 0, none⟩ = some (Value.slice va rs.length vc) := fun o => HYP.out _ (kt.alloc o)
                 (try (first | have bn := Blk.keeps (Blk.new _ 60 #[.string ⟨#[]⟩, .slice none 0 0, .bool false, .slice none 0 0, .int .i64 0]) k3 id | have bn := Blk.keeps (Blk.new _ 60 #[.string ⟨#[]⟩, .slice none 0 0, .bool false, .slice none 0 0, .int .i64 0]) k3.from_drew id))
                 clear hm k3))
            all_goals go_wp2_with fail
            all_goals refine ⟨?_, by simp only [intOf]; omega⟩
            all_goals first
              | (obtain ⟨v', h'⟩ := HD.out _ (.inl rfl)
                 exact ⟨j + 1, v', by omega, by go_num, by rw [HTJ.out]; with_reducible exact Lib.hid h'⟩)
              | (obtain ⟨v', h'⟩ := HD.out _ (.inr rfl)
                 exact ⟨j + 1, v', by omega, by go_num, by rw [HTJ.out]; with_reducible exact Lib.hid h'⟩)
    · have hlt : k < 10 := by omega
      have hi0 : (0 : Int) ≤ k := by omega
      have hi1 : (k : Int) < 10 := by omega
      obtain ⟨s, hs⟩ : ∃ s, [b0, b1, b2, b3, b4, b5, b6, b7, b8, b9][k]? = some s := ⟨_, List.getElem?_eq_getElem (by simpa using hlt)⟩
      have HSK := Lib.hid hs
      have hsv : (#[.string b0, .string b1, .string b2, .string b3, .string b4, .string b5, .string b6, .string b7, .string b8, .string b9] : Array Value)[k]? = some (.string s) := by
        have : (#[.string b0, .string b1, .string b2, .string b3, .string b4, .string b5, .string b6, .string b7, .string b8, .string b9] : Array Value) = ([b0, b1, b2, b3, b4, b5, b6, b7, b8, b9].map Value.string).toArray := rfl
        rw [this, List.getElem?_toArray, List.getElem?_map, hs]; rfl
      have HSV := Lib.hid hsv
      have HPUT := Lib.hid (fun W => put_any W (k : Int) (by omega) (by omega))
      have hw1 : IntKind.i64.wrap ((k : Int) + 1) = ((k + 1 : Nat) : Int) := by rw [wrap_in (by omega) (by omega)]; omega
      have HTK : Hid (brkNds 0 (c.brks.take (k + 1)) = brkNds 0 (c.brks.take k) ++ (if s.size = 0 then [] else [oneN kBreak [digS (k : Int), s]])) := Lib.hid (by
        rw [HH.out.1, List.take_add_one, hs]
        show brkNds 0 (_ ++ [s]) = _
        rw [brkNds_snoc]
        have e : (0 : Int) + (([b0, b1, b2, b3, b4, b5, b6, b7, b8, b9].take k).length : Int) = k := by rw [List.length_take]; simp; omega
        rw [e])
      have hlen : (brkNds 0 (c.brks.take k)).length ≤ 10 := Nat.le_trans (brk_len _ _) (by rw [List.length_take]; omega)
      clear hs hsv
      by_cases hse : s.size = 0
      · have hse' : s = ⟨#[]⟩ := by
          cases s with
          | mk d => have : d.size = 0 := hse; rw [Array.size_eq_zero_iff] at this; rw [this]
        rw [if_pos hse, List.append_nil] at HTK
        subst hse'
        go_wp2_with (with_reducible show wpList _ _ _ (⟨some 24, _, _, _, _, _⟩ :: _) _ _; go_must (refine wpList_index_arr rfl _ _ _ rfl 10 9 Tryz.underlying27 (by kernel_rfl) Tryz.underlying9 _ rfl k rfl hlt _ HSV.out ?_))
        exact ⟨⟨k + 1, v, by omega, by go_num, by rw [HTK.out]; exact HP⟩, by simp only [intOf]; omega⟩
      · have hne1 : s ≠ ⟨#[]⟩ := fun e => hse (by rw [e]; rfl)
        have hne2 : s.toList.isEmpty = false := by
          rw [ByteArray.toList_eq]
          cases hq : s.data.toList with
          | nil => exact absurd (ba_ext (b := ⟨#[]⟩) hq) hne1
          | cons a b => rfl
        rw [if_neg hse] at HTK
        go_wp2_with (with_reducible show wpList _ _ _ (⟨some 24, _, _, _, _, _⟩ :: _) _ _; go_must (refine wpList_index_arr rfl _ _ _ rfl 10 9 Tryz.underlying27 (by kernel_rfl) Tryz.underlying9 _ rfl k rfl hlt _ HSV.out ?_))
        refine (HPUT.out _).mono ?_
        rintro e w2 ⟨rfl, k2⟩
        have HK2 := Lib.hid k2
        clear k2
        go_wp2_with fail
        refine (Pr.putNew HP.out HK2.out kBreak [digS (k : Int), s] (Nat.le_of_ble_eq_true rfl) (by omega)).mono ?_
        rintro e w3 ⟨rfl, v3, hp3⟩
        have HP3 := Lib.hid hp3
        clear hp3
        go_wp2_with fail
        exact ⟨⟨k + 1, v3, by omega, by go_num, by rw [HTK.out]; exact HP3⟩, by simp only [intOf]; omega⟩
end Go.Proofs.YtfpajgmdejlaeaaGreatDoor
