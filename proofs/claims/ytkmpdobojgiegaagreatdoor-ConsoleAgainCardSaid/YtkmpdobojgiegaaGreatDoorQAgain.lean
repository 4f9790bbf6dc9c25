/-
  ConsoleAgain: behind a crash a console that is made again tells the last lines of what its log tells.
-/
import Derived.Test.YtkmpdobojgiegaaGreatDoorQAgainS
import Derived.Test.YtkmpdobojgiegaaGreatDoorQWorks33
import Derived.Test.YtkmpdobojgiegaaGreatDoorQOps33
import Derived.Test.YtkmpdobojgiegaaGreatDoorQLoadR
import Derived.Test.YtkmpdobojgiegaaGreatDoorQCells
namespace Go.Proofs.YtkmpdobojgiegaaGreatDoor
open Go.RowKit Go.Maps

/-- in the midst of ConsoleAgain -/
def AgainI (w : World) (st xb : Nat) (d : Con) (m : Ln) (k i : Nat) (told : List UInt8) (sure : Nat) (wr : World) : Prop :=
  told.length ≤ 300 * i ∧ sure ≤ 300 * i ∧ ∃ G bad l past rest lost, K33 w wr G st 20000 xb ⟨d, m, Sea.new 6, past, rest, lost⟩ bad l (2 + i) ∧ AgI 20000 B33 k told sure ⟨bad, l, rest, lost⟩ i
theorem AgI.mono {mst : Int} {base : ByteArray} {k sure N : Nat} {told : List UInt8} {j : Jp} (h : AgI mst base k told sure j N) : AgI mst base k told sure j (N + 1) := by
  obtain ⟨al, n, gone, G, cur, more, hL, hn, ht, hr, hsu, hm, hN, hz⟩ := h
  exact ⟨al, n, gone, G, cur, more, hL, hn, ht, hr, hsu, hm, by omega, hz⟩
theorem okB_digA {c : UInt8} (h : 48 ≤ c.toNat ∧ c.toNat ≤ 57) : okB c = true := by
  unfold okB
  rw [decide_eq_true (by omega : 33 ≤ c.toNat), decide_eq_true (by omega : c.toNat ≤ 126), decide_eq_true (by omega : c.toNat ≠ 47)]; rfl
theorem genName_namedA {base : ByteArray} (hb : namedP base = true) (hz : base.size ≤ 43) {i : Nat} (hi : i ≤ 9223372036854775807) : namedP (genName base (i : Nat)) = true := by
  by_cases h0 : (i : Int) ≤ 0
  · rw [genName_zero h0]; exact hb
  · have hz2 := genName_size (base := base) (i := (i : Nat)) (by omega)
    have hl := genName_list (base := base) (i := (i : Nat)) (by omega)
    have hsz : ∀ b : ByteArray, b.size = b.data.toList.length := fun b => by simp
    refine namedP_ok ?_ (by omega) ?_
    · rw [hsz, hl, List.length_append, List.length_cons]; omega
    · rw [hl, List.all_append]
      have hb2 : base.data.toList.all okB = true := by
        unfold namedP at hb
        simp only [Bool.and_eq_true] at hb
        exact hb.2
      rw [hb2, List.all_cons, show okB 46 = true from by decide, Bool.true_and, Bool.true_and, List.all_eq_true]
      exact fun c hc => okB_digA (decN_dig _ c hc)
theorem chunks_self {s : List UInt8} (h : s ≠ []) (hs : s.length ≤ 4096) : chunksOf s = [s] := by
  unfold chunksOf
  cases hn : s.length with
  | zero => exact absurd (List.eq_nil_of_length_eq_zero hn) h
  | succ n =>
    rw [chunks, if_neg h, List.take_of_length_le (by omega), List.drop_of_length_le (by omega)]
    cases n <;> simp [chunks]
theorem krests {w0 w : World} {st xb bad t : Nat} {most : Int} {x : Cns} {l : List SFile} {G : Nat → Prop} (h : K33 w0 w G st most xb x bad l t) : ∃ jb, (∀ W, Keeps (fun _ => False) w W → Calls Tryz.prog 28 #[.pointer (some ⟨xb, 0, none⟩)] W fun e w' => e = .returned (.pointer (some ⟨jb, 0, none⟩)) ∧ w' = W) ∧
    (∀ W, Keeps (fun _ => False) w W → Calls Tryz.prog 29 #[.pointer (some ⟨jb, 0, none⟩)] W fun e w' => e = .returned (.bool x.rest) ∧ w' = W) := by
  obtain ⟨F, FT, tag, lb, sb, pb, g, b, jb, hV, hS, h1, h2, hb, hG⟩ := h
  exact ⟨jb, fun W k => clog (hV.keeps k (fun _ _ h => h)), fun W k => jrestsF ((hV.keeps k (fun _ _ h => h)).logF (hS.keeps k (fun _ _ h => h) (fun _ _ h => h)) h2)⟩
theorem sam_bytes (c : Con) : ∃ m : Nat, (sampleC c).bytes = m ∧ m ≤ 200 := by
  have := clampM_le c.bytes 200 (by decide)
  refine ⟨(1 + clampM c.bytes 200).toNat, ?_, by omega⟩
  show 1 + clampM c.bytes 200 = _
  omega
theorem sam_gens (c : Con) : ∃ m : Nat, (sampleC c).gens = m ∧ 2 ≤ m ∧ m ≤ 6 := by
  have := clampM_le c.gens 4 (by decide)
  refine ⟨(2 + clampM c.gens 4).toNat, ?_, by omega, by omega⟩
  show 2 + clampM c.gens 4 = _
  omega
section
set_option maxRecDepth 100000 in
set_option maxHeartbeats 4000000 in
theorem consoleAgain_w (w : World) (c : Con) (a : Option Addr) (n cp : Nat) (l : List Op33) (hl : SlAt opR33 5 w a n l ∧ ∀ x ∈ l, x.good w) (a2 : Option Addr) (n2 cp2 : Nat) (keep : List Int) (hk : SlAt intR 1 w a2 n2 keep ∧ ∀ k ∈ keep, -9223372036854775808 ≤ k ∧ k ≤ 9223372036854775807) (he : Ety w) : Calls Tryz.prog 4 #[conV c, .slice a n cp, .slice a2 n2 cp2] w fun e w' => e = .returned (.bool true) ∧ Keeps (fun _ => False) w w' := by
  have HW := Lib.hid (fun W (k : Keeps (fun _ => False) w W) => works33 W (ety_keeps he k (fun _ _ => id)))
  have HE := Lib.hid he
  have HL := Lib.hid hl
  have HKP := Lib.hid hk
  clear he hl hk
  obtain ⟨d, hd⟩ : ∃ d, d = sampleC c := ⟨_, rfl⟩
  have hsm := fun W => sample_any W c
  rw [← hd] at hsm
  obtain ⟨ln, hln⟩ : ∃ m : Nat, d.lines = m := ⟨(1 + clampM c.lines 9).toNat, by have := clampM_le c.lines 9 (by decide); rw [hd]; show 1 + clampM c.lines 9 = _; omega⟩
  obtain ⟨bn, hbn, hb200⟩ := sam_bytes c
  obtain ⟨gn, hgn, hg2, hg6⟩ := sam_gens c
  rw [← hd] at hbn hgn
  have HB := Lib.hid (show baseOf d = B33 by rw [hd]; exact sam_base c)
  have HN := Lib.hid (show ∀ l, newC d 6 0 l = againC d 0 l from fun l => by rw [hd]; exact sam_new (by decide) 0 l)
  have HN0 := Lib.hid (show newC d 6 0 [] = (0, 0, [], []) by rw [hd, sam_new (by decide)]; exact sam_again0 c)
  have HT := Lib.hid (show tailOk d.lines d.bytes = true by rw [hd]; exact sam_tail c)
  obtain ⟨m1, hm1⟩ : ∃ m1, m1 = { lnOf d with n := 0, st := 2 } := ⟨_, rfl⟩
  obtain ⟨m2, hm2⟩ : ∃ m2, m2 = samUp c := ⟨_, rfl⟩
  have HM1 := Lib.hid (show startL (lnOf d) = (m1, [(1, [])]) by rw [hm1, hd]; exact sam_start c)
  have HM2 := Lib.hid (show (openedL m1 0 true 0).1 = m2 by rw [hm1, hm2, hd]; exact sam_open c)
  have HM4 := Lib.hid (show m2.st = 4 by rw [hm2]; rfl)
  clear hm1 hm2
  obtain ⟨d0, d1, d2, d3, d4, d5, d6, d7, d8, d9⟩ := d
  simp only at hln hbn hgn
  subst hln hbn hgn
  have hz : d0.size = 3 ∧ d9.size = 0 := by
    have h1 := congrArg (fun x : Con => x.name.size) hd
    have h2 := congrArg (fun x : Con => x.init.size) hd
    exact ⟨h1, h2⟩
  obtain ⟨hz0, hz9⟩ := hz
  clear hd
  obtain ⟨c0, c1, c2, c3, c4, c5, c6, c7, c8, c9⟩ := c
  rw [show conV ⟨c0, c1, c2, c3, c4, c5, c6, c7, c8, c9⟩ = .agg #[.string c0, .int .i64 c1, .int .i64 c2, .int .i64 c3, .int .i64 c4, .int .i64 c5, .int .i64 c6, .int .i64 c7, .int .i64 c8, .string c9] from rfl] at hsm ⊢
  rw [show conV ⟨d0, d1, (ln : Int), (bn : Int), (gn : Int), d5, d6, d7, d8, d9⟩ = .agg #[.string d0, .int .i64 d1, .int .i64 ln, .int .i64 bn, .int .i64 gn, .int .i64 d5, .int .i64 d6, .int .i64 d7, .int .i64 d8, .string d9] from rfl] at hsm
  have HS0 := Lib.hid hsm
  clear hsm
  by_cases hn : (40 : Int) < n
  · go_enter Tryz.func4, Tryz.ntmps4
    go_wp2_with fail
    refine (HW.out _ (by (repeat (first | (with_reducible assumption) | (with_reducible exact Keeps.refl _ _) | refine Keeps.drew ?_ | refine Keeps.drewN ?_ _ | refine Keeps.setCell ?_ (by simp) _ | refine Keeps.setRow ?_ (by simp) _ | refine Keeps.alloc ?_ _)))).mono ?_
    rintro e w2 ⟨rfl, k2⟩
    have HK := Lib.hid (Keeps.trans (show Keeps (fun _ => False) w _ by (repeat (first | (with_reducible assumption) | (with_reducible exact Keeps.refl _ _) | refine Keeps.drew ?_ | refine Keeps.drewN ?_ _ | refine Keeps.setCell ?_ (by simp) _ | refine Keeps.setRow ?_ (by simp) _ | refine Keeps.alloc ?_ _))) k2)
    clear k2
    go_wp2_with fail
    go_ret
    exact ⟨rfl, HK.out⟩
  by_cases hn3 : (20 : Int) < n2
  · go_enter Tryz.func4, Tryz.ntmps4
    go_wp2_with fail
    refine (HW.out _ (by (repeat (first | (with_reducible assumption) | (with_reducible exact Keeps.refl _ _) | refine Keeps.drew ?_ | refine Keeps.drewN ?_ _ | refine Keeps.setCell ?_ (by simp) _ | refine Keeps.setRow ?_ (by simp) _ | refine Keeps.alloc ?_ _)))).mono ?_
    rintro e w2 ⟨rfl, k2⟩
    have HK := Lib.hid (Keeps.trans (show Keeps (fun _ => False) w _ by (repeat (first | (with_reducible assumption) | (with_reducible exact Keeps.refl _ _) | refine Keeps.drew ?_ | refine Keeps.drewN ?_ _ | refine Keeps.setCell ?_ (by simp) _ | refine Keeps.setRow ?_ (by simp) _ | refine Keeps.alloc ?_ _))) k2)
    clear k2
    go_wp2_with fail
    go_ret
    exact ⟨rfl, HK.out⟩
  have hn2 : n ≤ 40 := by omega
  have hn4 : n2 ≤ 20 := by omega
  go_enter Tryz.func4, Tryz.ntmps4
  go_wp2_with fail
  refine (HS0.out _).mono ?_
  rintro e w1 ⟨rfl, k1⟩
  have hb1 := (Blk.new w 23 #[.string c0, .int .i64 c1, .int .i64 c2, .int .i64 c3, .int .i64 c4, .int .i64 c5, .int .i64 c6, .int .i64 c7, .int .i64 c8, .string c9]).keeps k1 id
  have k1' := Keeps.trans (show Keeps (fun _ => False) w _ by (repeat (first | (with_reducible assumption) | (with_reducible exact Keeps.refl _ _) | refine Keeps.drew ?_ | refine Keeps.drewN ?_ _ | refine Keeps.setCell ?_ (by simp) _ | refine Keeps.setRow ?_ (by simp) _ | refine Keeps.alloc ?_ _))) k1
  have x0 := hb1.cell 0; have x1 := hb1.cell 1; have x2 := hb1.cell 2; have x3 := hb1.cell 3; have x4 := hb1.cell 4; have x5 := hb1.cell 5; have x6 := hb1.cell 6; have x7 := hb1.cell 7; have x8 := hb1.cell 8; have x9 := hb1.cell 9
  simp only [List.getElem?_toArray, List.getElem?_cons_zero, List.getElem?_cons_succ] at x0 x1 x2 x3 x4 x5 x6 x7 x8 x9
  have f0 := hb1.frozen 0; have f1 := hb1.frozen 1; have f2 := hb1.frozen 2; have f3 := hb1.frozen 3; have f4 := hb1.frozen 4; have f5 := hb1.frozen 5; have f6 := hb1.frozen 6; have f7 := hb1.frozen 7; have f8 := hb1.frozen 8; have f9 := hb1.frozen 9
  have HB1 := Lib.hid hb1
  have HK1 := Lib.hid k1'
  clear k1 k1' hb1
  go_wp2_with fail
  obtain ⟨W2, hW2⟩ : ∃ W2, W2 = (World.setCell (World.setCell (World.setCell (World.setCell (World.setCell (World.setCell (World.setCell (World.setCell (World.setCell (World.setCell w1 ⟨w.heap.size, 0, none⟩ (.string d0)) ⟨w.heap.size, 1, none⟩ (.int .i64 d1)) ⟨w.heap.size, 2, none⟩ (.int .i64 ln)) ⟨w.heap.size, 3, none⟩ (.int .i64 bn)) ⟨w.heap.size, 4, none⟩ (.int .i64 gn)) ⟨w.heap.size, 5, none⟩ (.int .i64 d5)) ⟨w.heap.size, 6, none⟩ (.int .i64 d6)) ⟨w.heap.size, 7, none⟩ (.int .i64 d7)) ⟨w.heap.size, 8, none⟩ (.int .i64 d8)) ⟨w.heap.size, 9, none⟩ (.string d9)) := ⟨_, rfl⟩
  rw [← hW2]
  have hb2 : Blk W2 w.heap.size 23 #[.string d0, .int .i64 d1, .int .i64 ln, .int .i64 bn, .int .i64 gn, .int .i64 d5, .int .i64 d6, .int .i64 d7, .int .i64 d8, .string d9] := by rw [hW2]; exact Blk.setL_ [_, _, _, _, _, _, _, _, _, _] 0 HB1.out
  have k2 : Keeps (fun _ => False) w W2 := by rw [hW2]; exact Keeps.setLN (vs := [_, _, _, _, _, _, _, _, _, _]) HK1.out (Nat.le_refl _)
  have HC := Lib.hid (fun W (k : Keeps (fun _ => False) W2 W) => hb2.keeps k id)
  have HK2 := Lib.hid k2
  have HE2 := Lib.hid (ety_keeps HE.out k2 (fun _ _ => id))
  clear hW2 x0 x1 x2 x3 x4 x5 x6 x7 x8 x9 f0 f1 f2 f3 f4 f5 f6 f7 f8 f9 hb2 k2 HB1 HK1
  refine (snewF HE2.out (Keeps.refl _ _) (by decide) (by decide)).mono ?_
  rintro e w3 ⟨s, FT, rfl, S1, k3⟩
  have HS1 := Lib.hid S1
  have hb3 := HC.out _ k3
  have x0 := hb3.cell 0; have x1 := hb3.cell 1; have x2 := hb3.cell 2; have x3 := hb3.cell 3; have x4 := hb3.cell 4; have x5 := hb3.cell 5; have x6 := hb3.cell 6; have x7 := hb3.cell 7; have x8 := hb3.cell 8; have x9 := hb3.cell 9
  simp only [List.getElem?_toArray, List.getElem?_cons_zero, List.getElem?_cons_succ] at x0 x1 x2 x3 x4 x5 x6 x7 x8 x9
  clear S1 k3 hb3
  go_wp2_with fail
  have h3 := knew (mostS := 6) HS1.out 0 (by decide) (by decide) (c := ⟨d0, d1, (ln : Int), (bn : Int), (gn : Int), d5, d6, d7, d8, d9⟩) (by show d0.size ≤ 60; omega) (by show d9.size ≤ _; omega) (by rw [items_nil]; decide) (by rw [items_nil]; intro x hx; cases hx) (by rw [HN0.out])
  rw [HN0.out] at h3
  refine h3.mono ?_
  clear h3
  rintro e w4 ⟨xb, rfl, hK, -⟩
  obtain ⟨G3, hG3⟩ : ∃ G3, G3 = Ext FT w3 w4 := ⟨_, rfl⟩
  rw [← hG3] at hK
  have HK3 := Lib.hid (show K33 W2 w4 G3 s 20000 xb ⟨⟨d0, d1, (ln : Int), (bn : Int), (gn : Int), d5, d6, d7, d8, d9⟩, lnOf ⟨d0, d1, (ln : Int), (bn : Int), (gn : Int), d5, d6, d7, d8, d9⟩, Sea.new 6, [], false, 0⟩ 0 [] 0 from hK)
  clear hK hG3 x0 x1 x2 x3 x4 x5 x6 x7 x8 x9
  obtain ⟨lb, y0, h6⟩ := kstart HK3.out (by decide)
  go_wp2_with fail
  rw [show startL (⟨⟨d0, d1, (ln : Int), (bn : Int), (gn : Int), d5, d6, d7, d8, d9⟩, lnOf ⟨d0, d1, (ln : Int), (bn : Int), (gn : Int), d5, d6, d7, d8, d9⟩, Sea.new 6, [], false, 0⟩ : Cns).m = (m1, [(1, [])]) from HM1.out] at h6
  refine h6.mono ?_
  clear h6
  rintro e w6 ⟨v6, rfl, -, hK, -⟩
  obtain ⟨G6, hG6⟩ : ∃ G6, G6 = Ext G3 w4 w6 := ⟨_, rfl⟩
  rw [← hG6] at hK
  have HK6 := Lib.hid (show K33 W2 w6 G6 s 20000 xb ⟨⟨d0, d1, (ln : Int), (bn : Int), (gn : Int), d5, d6, d7, d8, d9⟩, m1, Sea.new 6, [], false, 0⟩ 0 [] 1 from hK)
  clear hK hG6 y0
  obtain ⟨lb2, y0, h7⟩ := kopened HK6.out (by decide) 0 0 true
  go_wp2_with fail
  refine h7.mono ?_
  clear h7
  rintro e w7 ⟨v7, rfl, -, hK, -⟩
  rw [show (openedL (⟨⟨d0, d1, (ln : Int), (bn : Int), (gn : Int), d5, d6, d7, d8, d9⟩, m1, Sea.new 6, [], false, 0⟩ : Cns).m 0 true 0).1 = m2 from HM2.out] at hK
  obtain ⟨D, hD⟩ : ∃ D : Con, D = ⟨d0, d1, (ln : Int), (bn : Int), (gn : Int), d5, d6, d7, d8, d9⟩ := ⟨_, rfl⟩
  rw [← hD] at hK HB HN
  have HD := Lib.hid hD
  have HI7 := Lib.hid (show AgainI W2 s xb D m2 gn 0 [] 0 w7 from ⟨Nat.zero_le _, Nat.zero_le _, _, _, _, _, _, _, hK, AgI.begin (by omega) (by decide) rfl⟩)
  clear hK y0 hD
  go_wp2_with fail
  go_loopw [11, 12, 13] (fun u11 u12 u13 wr => ∃ (i : Nat) (told sure : List UInt8), u13 = .int .i64 i ∧ u11 = .string (str told) ∧ u12 = .string (str sure) ∧ i ≤ n ∧ Hid (AgainI W2 s xb D m2 gn i told sure.length wr)) (fun _ _ u13 _ => n - (intOf u13).toNat)
  case atStart => exact ⟨0, [], [], rfl, rfl, rfl, Nat.zero_le _, HI7⟩
  case round =>
    obtain ⟨i, told, sure, rfl, rfl, rfl, hi, HI⟩ := hrel
    by_cases hlt : i < n
    · obtain ⟨x, b, off, hx, rfl, hb, hc⟩ := op33_at HL.out.1 hlt
      obtain ⟨htl, hsl, G, bad, fl, past, rest, lost, hK, hA⟩ := HI.out
      obtain ⟨y0, y1, y2, y3, y4⟩ := hc wr (HK2.out.trans hK.base)
      have HCC := Lib.hid hc
      have hgd := HL.out.2 x (List.mem_of_getElem? hx)
      have HX := Lib.hid hgd
      have HTL := Lib.hid htl
      have HSL := Lib.hid hsl
      have HK := Lib.hid hK
      have HA := Lib.hid hA
      obtain ⟨tt, htt⟩ : ∃ tt, tt = str told := ⟨_, rfl⟩
      obtain ⟨ss, hss⟩ : ∃ ss, ss = str sure := ⟨_, rfl⟩
      rw [← htt, ← hss]
      have htz : tt.size ≤ 12000 := by rw [htt, str_size]; omega
      have HTT := Lib.hid htt
      have HSS := Lib.hid hss
      obtain ⟨xk, xs, xid, xok, xa, xn, xc, xl⟩ := x
      simp only at y0 y1 y2 y3 y4
      by_cases hz : 300 < xs.size
      · clear HI hx hc hb hgd htl hsl hK hA htt hss
        go_wp2_with fail
        exact ⟨⟨i + 1, told, sure, by go_num, by rw [HTT.out], by rw [HSS.out], by omega, Lib.hid ⟨by have := HTL.out; omega, by have := HSL.out; omega, G, bad, fl, past, rest, lost, HK.out.next (by omega), HA.out.mono⟩⟩, by simp [intOf]; omega⟩
      · obtain ⟨q, hq⟩ : ∃ q, q = xk % 3 := ⟨_, rfl⟩
        have hkd : ((xk : Nat) : Int).tmod 3 = ((q : Nat) : Int) := by rw [hq]; exact tmod_nat xk 3
        have hq3 : q = 0 ∨ q = 1 ∨ q = 2 := by omega
        obtain ⟨sl, hxl⟩ : ∃ sl, sl = xs.data.toList := ⟨_, rfl⟩
        have hxs : xs = str sl := by rw [hxl]; rfl
        have hxz : sl.length ≤ 300 := by have := congrArg ByteArray.size hxs; rw [str_size] at this; omega
        have HXS := Lib.hid hxs
        have HXZ := Lib.hid hxz
        have hz2 : xs.size ≤ 300 := by omega
        clear HI hx hc hb hgd htl hsl hq hxl hxs hxz htt hss
        rcases hq3 with rfl | hq3
        · have h8 := ksave HK.out (by omega)
          obtain ⟨j, hj⟩ : ∃ j, j = syncJ B33 ⟨bad, fl, rest, lost⟩ := ⟨_, rfl⟩
          rw [show baseOf (⟨D, m2, Sea.new 6, past, rest, lost⟩ : Cns).c = B33 from HB.out] at h8
          have hA2 := hA.save
          rw [← hj] at hA2
          rw [show syncJ B33 ⟨bad, fl, (⟨D, m2, Sea.new 6, past, rest, lost⟩ : Cns).rest, (⟨D, m2, Sea.new 6, past, rest, lost⟩ : Cns).lost⟩ = j from hj.symm] at h8
          obtain ⟨⟨jb, jl, jr, jo⟩, ok⟩ := j
          simp only at h8 hA2
          have HA2 := Lib.hid hA2
          have H8 := Lib.hid h8
          clear hj hK hA hA2 h8
          cases ok with
          | true =>
            go_wp2_with fail
            refine H8.out.mono ?_
            rintro e w8 ⟨rfl, hK, -⟩
            have HK8 := Lib.hid hK
            clear hK
            go_wp2_with fail
            exact ⟨⟨i + 1, told, told, by go_num, by rw [HTT.out], by rw [HTT.out], by omega, Lib.hid ⟨by have := HTL.out; omega, by have := HTL.out; omega, _, jb, jl, past, jr, jo, HK8.out, (by have := HA2.out; rw [if_pos trivial] at this; exact this.mono)⟩⟩, by simp [intOf]; omega⟩
          | false =>
            go_wp2_with fail
            refine H8.out.mono ?_
            rintro e w8 ⟨rfl, hK, -⟩
            have HK8 := Lib.hid hK
            clear hK
            go_wp2_with fail
            exact ⟨⟨i + 1, told, sure, by go_num, by rw [HTT.out], by rw [HSS.out], by omega, Lib.hid ⟨by have := HTL.out; omega, by have := HSL.out; omega, _, jb, jl, past, jr, jo, HK8.out, (by have := HA2.out; rw [if_neg (by decide)] at this; exact this.mono)⟩⟩, by simp [intOf]; omega⟩
        · have hq0 : ((q : Nat) : Int) ≠ 0 := by omega
          have h8 := kcame HK.out (by omega) (i : Int) ⟨by omega, by omega⟩ sl HXZ.out
          rw [← HXS.out] at h8
          by_cases hs0 : sl = []
          · rw [show cameC 20000 (i : Int) bad fl ⟨D, m2, Sea.new 6, past, rest, lost⟩ sl = (⟨D, m2, Sea.new 6, past, rest, lost⟩, ⟨bad, fl, rest, lost⟩, false) from by unfold cameC; rw [if_pos (.inr hs0)]] at h8
            have H8 := Lib.hid h8
            clear h8 hs0 hK hA
            rcases hq3 with rfl | rfl
            all_goals
              go_wp2_with fail
              refine H8.out.mono ?_
              rintro e w8 ⟨rfl, hK, -⟩
              have HK8 := Lib.hid hK
              clear hK
              go_wp2_with fail
              exact ⟨⟨i + 1, told, sure, by go_num, by rw [HTT.out], by rw [HSS.out], by omega, Lib.hid ⟨by have := HTL.out; omega, by have := HSL.out; omega, _, bad, fl, past, rest, lost, HK8.out, HA.out.mono⟩⟩, by simp [intOf]; omega⟩
          · obtain ⟨J, hJ⟩ : ∃ J, J = (addJ 20000 B33 gn (D.size.toNat) ⟨bad, fl, rest, lost⟩ ⟨1, (i : Int), str sl⟩).1 := ⟨_, rfl⟩
            rw [show cameC 20000 (i : Int) bad fl ⟨D, m2, Sea.new 6, past, rest, lost⟩ sl = (⟨D, m2, Sea.new 6, past ++ sl, J.rest, J.lost⟩, J, true) from by
              unfold cameC
              rw [if_neg (by rintro (e | e); · have : m2.st < 3 := e; rw [HM4.out] at this; omega
                             · exact hs0 e)]
              rw [chunks_self hs0 (by have := HXZ.out; omega)]
              have e : putsJ 20000 (baseOf D) D.gens.toNat D.size.toNat (i : Int) ⟨bad, fl, rest, lost⟩ [sl] = J := by rw [hJ, HB.out, HD.out]; rfl
              simp only [e]] at h8
            have hA2 := hA.came (size := D.size.toNat) (fun i hi => genName_namedA (by decide) (by decide) (by omega)) (by omega) (now := (i : Int)) ⟨by omega, by omega⟩ (s := sl) (by have := HXZ.out; omega)
            rw [← hJ] at hA2
            obtain ⟨jb, jl, jr, jo⟩ := J
            simp only at h8
            have HA2 := Lib.hid hA2
            have H8 := Lib.hid h8
            have HKB := Lib.hid (HK2.out.trans hK.base)
            clear h8 hs0 hK hA hJ hA2
            rcases hq3 with rfl | rfl
            all_goals
              go_wp2_with fail
              refine H8.out.mono ?_
              rintro e w8 ⟨rfl, hK, -⟩
              obtain ⟨-, z1, -, -, -⟩ := HCC.out w8 (HK2.out.trans hK.base)
              have HK8 := Lib.hid hK
              clear hK
              go_wp2_with fail
              exact ⟨⟨i + 1, told ++ sl, sure, by go_num, by rw [HTT.out, HXS.out, str_appW], by rw [HSS.out], by omega, Lib.hid ⟨by rw [List.length_append]; have := HTL.out; have := HXZ.out; omega, by have := HSL.out; omega, _, jb, jl, past ++ sl, jr, jo, HK8.out, HA2.out⟩⟩, by simp [intOf]; omega⟩
    · have hie : i = n := by omega
      subst hie
      obtain ⟨htl, hsl, G, bad, fl, past, rest, lost, hK, hA⟩ := HI.out
      obtain ⟨tt, htt⟩ : ∃ tt, tt = str told := ⟨_, rfl⟩
      obtain ⟨ss, hss⟩ : ∃ ss, ss = str sure := ⟨_, rfl⟩
      rw [← htt, ← hss]
      have htz : tt.size ≤ 12000 := by rw [htt, str_size]; omega
      have hsz : ss.size ≤ 12000 := by rw [hss, str_size]; omega
      have hcr := hA.crash (fun i hi => genName_namedA (by decide) (by decide) (by omega)) (by omega) keep
      simp only at hcr
      obtain ⟨L8, hL8⟩ : ∃ L8, L8 = crashP keep fl := ⟨_, rfl⟩
      obtain ⟨its, hits⟩ : ∃ its, its = loadP (allP L8 B33 gn) := ⟨_, rfl⟩
      rw [← hL8, ← hits] at hcr
      obtain ⟨⟨pa, pc, hwh, hsu⟩, hbg, hnl, hzl⟩ := hcr
      have hgh : heldP (gn : Int) = gn := by unfold heldP; omega
      have hit2 : itemsC D L8 = its := by unfold itemsC; rw [HB.out, HD.out]; show loadP (allP L8 B33 (heldP (gn : Int))) = its; rw [hgh, hits]
      have hbg2 : (beginP (baseOf D) (heldP D.gens - 1) 0 L8).1 = 0 := by rw [HB.out, HD.out]; show (beginP B33 (heldP (gn : Int) - 1) 0 L8).1 = 0; rw [hgh]; exact hbg
      obtain ⟨wl, hwl⟩ : ∃ wl, wl = dataP its := ⟨_, rfl⟩
      rw [← hwl] at hwh hsu
      obtain ⟨tl, htlp⟩ : ∃ tl, tl = tailP bn ln wl := ⟨_, rfl⟩
      have hT2 : tailOk D.lines D.bytes = true := by rw [HD.out]; exact HT.out
      have hn1 : (newC D 6 0 L8).1 = 0 := by rw [HN.out]; unfold againC; rw [if_pos hT2, if_pos hbg2]
      have hn2' : (newC D 6 0 L8).2.2.2 = tl := by rw [HN.out]; unfold againC; rw [if_pos hT2, if_pos hbg2, hit2, htlp, hwl, HD.out]; rfl
      have htll : tl.length ≤ 201 := by rw [htlp]; exact Nat.le_trans (tailP_len _ _ _) (by omega)
      obtain ⟨wh, hwhs⟩ : ∃ wh, wh = str wl := ⟨_, rfl⟩
      have hwz : wl.length ≤ 12000 := by have := congrArg List.length hwh; rw [List.length_append, List.length_append] at this; omega
      have hwz2 : wh.size ≤ 12000 := by rw [hwhs, str_size]; exact hwz
      have HTT := Lib.hid htt
      have HSS := Lib.hid hss
      have HWH := Lib.hid hwh
      have HSU := Lib.hid hsu
      have HK := Lib.hid hK
      have HN1 := Lib.hid hn1
      have HN2 := Lib.hid hn2'
      have HWS := Lib.hid hwhs
      have HTP := Lib.hid htlp
      have HTLL := Lib.hid htll
      have HIL := Lib.hid (show (itemsC D L8).length ≤ 1048576 by rw [hit2]; omega)
      have HIZ := Lib.hid (show ∀ x ∈ itemsC D L8, x.body.size ≤ 1048576 by rw [hit2]; intro x hx; have := hzl x hx; omega)
      obtain ⟨ds, hds⟩ : ∃ ds, ds = allP L8 B33 gn := ⟨_, rfl⟩
      obtain ⟨q, hq⟩ : ∃ q, q = ds.length := ⟨_, rfl⟩
      obtain ⟨m, hm⟩ : ∃ m, m = its.length := ⟨_, rfl⟩
      have hq6 : q ≤ 6 := by rw [hq, hds]; exact Nat.le_trans (allP_len _ _ _) hg6
      have hm40 : m ≤ 40 := by rw [hm]; omega
      have HDS := Lib.hid hds
      have HQ := Lib.hid hq
      have HM := Lib.hid hm
      have HITS := Lib.hid hits
      have HWL := Lib.hid hwl
      have HIT := Lib.hid hzl
      have HGH := Lib.hid hgh
      clear HI htl hsl hK hA htt hss hwh hsu hbg hnl hzl hgh hit2 hbg2 hT2 hn1 hn2' htlp htll hwhs hwz hds hq hm hits hwl
      go_wp2_with fail
      refine (kcrash HK.out keep a2 n2 cp2 (HKP.out.1.keeps HK2.out (fun _ _ h => h)) HKP.out.2 (by omega)).mono ?_
      rintro e w8 ⟨rfl, ⟨FT8, hS8, -⟩, -⟩
      rw [← hL8] at hS8
      have HS8 := Lib.hid hS8
      have HK8 := Lib.hid hS8.from_
      have hx0 : ∀ W, Keeps (fun _ => False) w8 W → W.cell? ⟨w.heap.size, 0, none⟩ = some (.string d0) := fun W k => (HC.out W (HK8.out.trans k)).cell 0
      have hx4 : ∀ W, Keeps (fun _ => False) w8 W → W.cell? ⟨w.heap.size, 4, none⟩ = some (.int .i64 gn) := fun W k => (HC.out W (HK8.out.trans k)).cell 4
      have HBS := Lib.hid (show ∀ W, Calls Tryz.prog 20 #[.string d0] W fun e w' => e = .returned (.string B33) ∧ w' = W from fun W => by
        have := cbase W d0 (by omega)
        rwa [show d0 ++ (⟨#[46, 108, 111, 103]⟩ : ByteArray) = B33 from by have := HB.out; rw [HD.out] at this; exact this] at this)
      have HGA := Lib.hid (show ∀ W, Keeps (fun _ => False) w8 W → Calls Tryz.prog 19 #[.pointer (some ⟨s, 0, none⟩), .string B33, .int .i64 gn] W fun e w' => ∃ a c, e = .returned (.slice a q c) ∧ SlAt strR 1 w' a q ds ∧ Keeps (fun _ => False) w8 w' from fun W k => by
        refine (gallF (HS8.out.keeps k (fun _ _ h => h) (fun _ _ h => h)) B33 (gn : Int) (by decide)).mono ?_
        rintro e w' ⟨⟨v, rfl, hO⟩, kk⟩
        rw [HGH.out, ← HDS.out] at hO
        obtain ⟨a5, c5, rfl⟩ := hO.sl'
        have hs5 := (slat_own hO).2
        rw [List.length_map, ← HQ.out] at *
        exact ⟨a5, c5, rfl, hs5, k.trans kk⟩)
      have HDZ := Lib.hid (show ∀ d ∈ ds, d.size ≤ 16777216 by
        rw [HDS.out]
        obtain ⟨M, L, hL, hF, hS⟩ := HS8.out
        letI : Res := resF w8 FT8
        have := allP_size hS B33 gn
        rwa [hL] at this)
      have HLD := Lib.hid (show ∀ W a c, Keeps (fun _ => False) w8 W → SlAt strR 1 W a q ds → Calls Tryz.prog 18 #[.slice a q c] W fun e w' => ∃ a' c', e = .returned (.slice a' m c') ∧ SlAt itmR 3 w' a' m its ∧ Keeps (fun _ => False) w8 w' from fun W a c k h => by
        refine (rload_any W a q c ds h (by omega) HDZ.out).mono ?_
        rintro e w' ⟨⟨v, rfl, hO⟩, kk⟩
        rw [HDS.out, ← HITS.out] at hO
        obtain ⟨a6, c6, rfl, hs6⟩ := hO.slat
        rw [← HM.out] at hs6 ⊢
        exact ⟨a6, c6, rfl, hs6, k.trans kk⟩)
      have HDT := Lib.hid (show ∀ W a c, SlAt itmR 3 W a m its → Calls Tryz.prog 17 #[.slice a m c] W fun e w' => e = .returned (.string wh) ∧ w' = W from fun W a c h => by
        have := rdata_any W a m c its h (by omega) (fun x hx => by have := HIT.out x hx; omega)
        rwa [← HWL.out, ← HWS.out] at this)
      clear hS8 hL8
      go_wp2_with fail
      go_region_held3 (fun W => Keeps (fun _ => False) w8 W)
        ((repeat (first | (with_reducible assumption) | (with_reducible exact Keeps.refl _ _) | refine Keeps.drew ?_ | refine Keeps.drewN ?_ _ | refine Keeps.setCell ?_ (by simp) _ | refine Keeps.setRow ?_ (by simp) _ | refine Keeps.alloc ?_ _)))
        ((first
          | (go_at_call 20; refine (HBS.out _).mono ?_; rintro e w9 ⟨rfl, hw⟩; obtain rfl := hw.symm)
          | (go_at_call 19; refine (HGA.out _ (by (repeat (first | (with_reducible assumption) | (with_reducible exact Keeps.refl _ _) | refine Keeps.drew ?_ | refine Keeps.drewN ?_ _ | refine Keeps.setCell ?_ (by simp) _ | refine Keeps.setRow ?_ (by simp) _ | refine Keeps.alloc ?_ _)))).mono ?_; rintro e w10 ⟨a10, c10, rfl, hs10, k10⟩; have HS10 := Lib.hid hs10; clear hs10)
          | (go_at_call 18; refine (HLD.out _ _ _ (by (repeat (first | (with_reducible assumption) | (with_reducible exact Keeps.refl _ _) | refine Keeps.drew ?_ | refine Keeps.drewN ?_ _ | refine Keeps.setCell ?_ (by simp) _ | refine Keeps.setRow ?_ (by simp) _ | refine Keeps.alloc ?_ _))) (HS10.out.keeps (S := fun _ => False) (by (repeat (first | (with_reducible assumption) | (with_reducible exact Keeps.refl _ _) | refine Keeps.drew ?_ | refine Keeps.drewN ?_ _ | refine Keeps.setCell ?_ (by simp) _ | refine Keeps.setRow ?_ (by simp) _ | refine Keeps.alloc ?_ _))) (fun _ _ h => h))).mono ?_; rintro e w11 ⟨a11, c11, rfl, hs11, k11⟩; have HS11 := Lib.hid hs11; clear hs11)
          | (go_at_call 17; refine (HDT.out _ _ _ (HS11.out.keeps (S := fun _ => False) (by (repeat (first | (with_reducible assumption) | (with_reducible exact Keeps.refl _ _) | refine Keeps.drew ?_ | refine Keeps.drewN ?_ _ | refine Keeps.setCell ?_ (by simp) _ | refine Keeps.setRow ?_ (by simp) _ | refine Keeps.alloc ?_ _))) (fun _ _ h => h))).mono ?_; rintro e w12 ⟨rfl, hw⟩; obtain rfl := hw.symm)))
      clear hx0 hx4
      have HK11 := Lib.hid (HK8.out.trans k11)
      have hb3 := HC.out _ HK11.out
      have x0 := hb3.cell 0; have x1 := hb3.cell 1; have x2 := hb3.cell 2; have x3 := hb3.cell 3; have x4 := hb3.cell 4; have x5 := hb3.cell 5; have x6 := hb3.cell 6; have x7 := hb3.cell 7; have x8 := hb3.cell 8; have x9 := hb3.cell 9
      simp only [List.getElem?_toArray, List.getElem?_cons_zero, List.getElem?_cons_succ] at x0 x1 x2 x3 x4 x5 x6 x7 x8 x9
      have HS11' := Lib.hid (HS8.out.keeps k11 (fun _ _ h => h) (fun _ _ h => h))
      clear k11 k10 hb3
      go_wp2_with fail
      have h3 := knew (mostS := 6) (c := D) HS11'.out (3 + i) (by omega) (by omega) (by rw [HD.out]; show d0.size ≤ 60; omega) (by rw [HD.out]; show d9.size ≤ _; omega) HIL.out HIZ.out HN1.out
      rw [HN2.out, show conV D = .agg #[.string d0, .int .i64 d1, .int .i64 ln, .int .i64 bn, .int .i64 gn, .int .i64 d5, .int .i64 d6, .int .i64 d7, .int .i64 d8, .string d9] from by rw [HD.out]; rfl] at h3
      refine h3.mono ?_
      clear h3
      rintro e w13 ⟨yb, rfl, hK, -⟩
      obtain ⟨lo, hlo⟩ : ∃ lo, lo = lnOf D := ⟨_, rfl⟩
      have hlo0 : lo.st = 0 := by rw [hlo]; rfl
      rw [← hlo] at hK
      have HK13 := Lib.hid hK
      clear hK hlo x0 x1 x2 x3 x4 x5 x6 x7 x8 x9
      obtain ⟨pb2, h18, h19, -, h20⟩ := kpast HK13.out (by omega)
      have H19 := Lib.hid h19
      have H20 := Lib.hid h20
      clear h19 h20
      go_wp2_with fail
      refine h18.mono ?_
      clear h18
      rintro e w14 ⟨rfl, hw⟩
      obtain rfl := hw.symm
      go_wp2_with fail
      refine (H19.out _ (Keeps.refl _ _)).mono ?_
      rintro e w14 ⟨rfl, k14⟩
      have h21 := H20.out w14 k14 0 (by have := HTLL.out; show ((tl.length - 32768 : Nat) : Int) ≤ 0; omega) (by omega)
      have HK14 := Lib.hid (HK13.out.same k14)
      obtain ⟨ts, hts⟩ : ∃ ts, ts = str tl := ⟨_, rfl⟩
      rw [show str ((⟨D, lo, Sea.new 6, tl, false, 0⟩ : Cns).past.drop (0 : Int).toNat) = ts from by rw [hts]; rfl] at h21
      have HTS := Lib.hid hts
      obtain ⟨tn, htn⟩ : ∃ tn : Nat, tn = (⟨D, lo, Sea.new 6, tl, false, 0⟩ : Cns).past.length := ⟨_, rfl⟩
      rw [← htn] at h21 ⊢
      have H21 := Lib.hid h21
      clear k14 hts htn h21
      go_wp2_with fail
      refine H21.out.mono ?_
      rintro e w15 ⟨rfl, k15⟩
      have HK15 := Lib.hid (HK14.out.same k15)
      clear k15
      obtain ⟨sb2, h22, h23, -⟩ := kseat HK15.out
      have H23 := Lib.hid h23
      clear h23
      go_wp2_with fail
      refine h22.mono ?_
      clear h22
      rintro e w16 ⟨rfl, hw⟩
      obtain rfl := hw.symm
      go_wp2_with fail
      have h23 : Calls Tryz.prog 25 #[.pointer (some ⟨sb2, 0, none⟩)] w15 fun e w' => e = .returned (.tuple #[.int .i64 0, .bool false]) ∧ w' = w15 := H23.out _ (Keeps.refl _ _)
      refine h23.mono ?_
      clear h23
      rintro e w16 ⟨rfl, hw⟩
      obtain rfl := hw.symm
      obtain ⟨lb3, y0, h24⟩ := kcells HK15.out
      rw [show (⟨D, lo, Sea.new 6, tl, false, 0⟩ : Cns).m.st = 0 from hlo0] at h24
      have hb3 := HC.out _ HK15.out.base
      have x2 := hb3.cell 2; have x3 := hb3.cell 3
      simp only [List.getElem?_toArray, List.getElem?_cons_zero, List.getElem?_cons_succ] at x2 x3
      have H24 := Lib.hid h24
      have HRT := Lib.hid (show Calls Tryz.prog 27 #[.string wh, .int .i64 ln, .int .i64 bn] w15 fun e w' => e = .returned (.string ts) ∧ w' = w15 from by
        have h25 := rtail_any w15 wh ln bn (by omega)
        rwa [show str (tailP bn ln wh.data.toList) = ts from by rw [HTS.out, HTP.out, HWS.out]; rfl] at h25)
      obtain ⟨jb3, h26, h27⟩ := krests HK15.out
      have H26 := Lib.hid (h26 _ (Keeps.refl _ _))
      have H27 := Lib.hid (h27 _ (Keeps.refl _ _))
      clear hb3 h24 h26 h27
      go_wp2_with fail
      refine H24.out.mono ?_
      rintro e w16 ⟨rfl, hw⟩
      obtain rfl := hw.symm
      go_wp2_with fail
      refine HRT.out.mono ?_
      rintro e w16 ⟨rfl, hw⟩
      obtain rfl := hw.symm
      go_wp2_with fail
      refine H26.out.mono ?_
      rintro e w16 ⟨rfl, hw⟩
      obtain rfl := hw.symm
      go_wp2_with fail
      refine H27.out.mono ?_
      rintro e w16 ⟨rfl, hw⟩
      obtain rfl := hw.symm
      have HKZ := Lib.hid (HK2.out.trans HK15.out.base)
      obtain ⟨pn, hpn⟩ : ∃ pn, pn = pa.length := ⟨_, rfl⟩
      have HPN := Lib.hid hpn
      have hss2 : ss.size ≤ pn + wh.size := by rw [HSS.out, HWS.out, str_size, str_size, hpn]; exact HSU.out
      have htt2 : pn + wh.size ≤ tt.size := by
        have := congrArg List.length HWH.out
        rw [List.length_append, List.length_append] at this
        rw [HTT.out, HWS.out, str_size, str_size, hpn]; omega
      clear hpn y0 x2 x3
      go_wp2_with fail
      go_loopw [22, 23] (fun u22 u23 wr => w15 = wr ∧ ∃ (k : Nat) (f : Bool), u23 = .int .i64 k ∧ u22 = .bool f ∧ k ≤ tt.size + 1 ∧ Hid (pn < k → f = true)) (fun _ u23 _ => tt.size + 1 - (intOf u23).toNat)
      case atStart => exact ⟨rfl, 0, false, rfl, rfl, Nat.zero_le _, Lib.hid (fun h => absurd h (Nat.not_lt_zero _))⟩
      case round =>
        obtain ⟨rfl, k, f, rfl, rfl, hk, HF⟩ := hrel
        by_cases hle : (k : Int) + wh.size ≤ tt.size
        · have hw1 : IntKind.i64.wrap ((k : Int) + wh.size) = (k : Int) + wh.size := wrap_in (by omega) (by omega)
          cases f with
          | true =>
            clear HF
            go_wp2_with fail
            exact ⟨⟨trivial, k + 1, true, by go_num, rfl, by omega, Lib.hid (fun _ => rfl)⟩, by simp [intOf]; omega⟩
          | false =>
            have hkp : ¬ pn < k := fun h => by have := HF.out h; cases this
            clear HF
            by_cases hge : ss.size ≤ k + wh.size
            · have hge2 : (ss.size : Int) ≤ (k : Int) + wh.size := by omega
              by_cases hex : tt.extract k (k + wh.size) = wh
              · go_wp2
                exact ⟨⟨trivial, k + 1, true, by go_num, rfl, by omega, Lib.hid (fun _ => rfl)⟩, by simp [intOf]; omega⟩
              · have hne : ¬ k = pn := fun e => by
                  apply hex
                  apply ba_ext
                  simp only [ByteArray.data_extract, Array.toList_extract, List.extract_eq_take_drop]
                  rw [HTT.out, e, HPN.out, HWS.out]
                  show ((str told).data.toList.drop pa.length).take (pa.length + (str wl).size - pa.length) = wl
                  rw [str_list, HWH.out, str_size, Nat.add_sub_cancel_left, List.append_assoc, List.drop_left, List.take_left]
                go_wp2
                exact ⟨⟨trivial, k + 1, _, by go_num, rfl, by omega, Lib.hid (fun h => by omega)⟩, by simp [intOf]; omega⟩
            · have hne : ¬ k = pn := by omega
              have hge2 : ¬ (ss.size : Int) ≤ (k : Int) + wh.size := by omega
              go_wp2_with fail
              exact ⟨⟨trivial, k + 1, false, by go_num, rfl, by omega, Lib.hid (fun h => by omega)⟩, by simp [intOf]; omega⟩
        · have hf : f = true := HF.out (by omega)
          subst hf
          clear HF
          go_wp2_with fail
          refine (HW.out _ HKZ.out).mono ?_
          rintro e w17 ⟨rfl, k17⟩
          have HK17 := Lib.hid (HKZ.out.trans k17)
          clear k17
          go_wp2_with fail
          go_ret
          exact ⟨rfl, HK17.out⟩
end
end Go.Proofs.YtkmpdobojgiegaaGreatDoor
