/-
  ConsoleHand: what is written to a line that is up is what the one typed who wrote then, and nothing of anybody else's.
-/
import Derived.Test.YtkmpdobojgiegaaGreatDoorQWorks33
import Derived.Test.YtkmpdobojgiegaaGreatDoorQOps33
namespace Go.Proofs.YtkmpdobojgiegaaGreatDoor
open Go.RowKit Go.Maps

def h33 : Con := ⟨⟨#[108, 111, 103]⟩, 1, 1, 1, 2, 64, 1, 4, 0, ⟨#[]⟩⟩
theorem samh : sampleC z330 = h33 := by kernel_rfl
theorem againh : againC h33 0 [] = (0, 0, [], []) := by
  unfold againC
  rw [items_nil, show baseOf h33 = B33 from by kernel_rfl]
  kernel_rfl
theorem newh : newC h33 9 0 [] = (0, 0, [], []) := by
  unfold newC
  rw [show lineC0 h33 = 0 from by kernel_rfl, if_neg (by decide), if_neg (by decide), if_neg (by decide), againh]
def mh1 : Ln := { lnOf h33 with n := 0, st := 2 }
theorem starth : startL (lnOf h33) = (mh1, [(1, [])]) := by kernel_rfl
def mh2 : Ln := ⟨1, 4, 0, 4, 0, 0, [], [], 0, 0, []⟩
theorem openh : openedL mh1 0 true 0 = (mh2, []) := by kernel_rfl
/-- the console of ConsoleHand -/
def xh (s : Sea) : Cns := ⟨h33, mh2, s, [], false, 0⟩
theorem typeh (s : Sea) (who : Int) (l : List UInt8) : typeC (xh s) who l = if s.wr ≠ -1 ∧ s.wr = who then (xh s, (if l = [] then [] else [(3, l)]), 0) else (xh s, [], 10) := by
  have hs : sendL mh2 l = (mh2, if l = [] then [] else [(3, l)], true) := by unfold sendL; rw [if_pos (show mh2.st = 4 from rfl)]
  unfold typeC writesC
  by_cases h : s.wr ≠ -1 ∧ s.wr = who
  · rw [if_pos h, show (xh s).s = s from rfl, if_pos h, if_neg (by simp), show (xh s).m = mh2 from rfl, hs, if_pos rfl]
    rfl
  · rw [if_neg h, show (xh s).s = s from rfl, if_neg h, if_pos (by decide)]
theorem writtenh (l : List UInt8) : writtenL (if l = [] then [] else [(3, l)]) = l := by
  by_cases h : l = []
  · rw [if_pos h, h]; rfl
  · rw [if_neg h]; unfold writtenL; simp
theorem outh_len (l : List UInt8) : (if l = [] then [] else [((3 : Int), l)] : List OutP).length ≤ 1 := by split <;> simp
/-- in the midst of ConsoleHand -/
def HandI (w : World) (st xb n : Nat) (i : Nat) (g : List UInt8) (wr : World) : Prop := i ≤ n ∧ g.length ≤ 300 * i ∧ ∃ s G, K33 w wr G st 20000 xb (xh s) 0 [] (2 + i)
section
set_option maxRecDepth 100000 in
set_option maxHeartbeats 4000000 in
theorem consoleHand_walk (w : World) (a : Option Addr) (n c : Nat) (l : List Op33) (hl : SlAt opR33 5 w a n l ∧ ∀ x ∈ l, x.good w) (he : Ety w) : Calls Tryz.prog 5 #[.slice a n c] w fun e w' => e = .returned (.bool true) ∧ Keeps (fun _ => False) w w' := by
  have HW := Lib.hid (fun W (k : Keeps (fun _ => False) w W) => works33 W (ety_keeps he k (fun _ _ => id)))
  have HE := Lib.hid he
  have HL := Lib.hid hl
  clear he hl
  by_cases hn : (60 : Int) < n
  · go_enter Tryz.func5, Tryz.ntmps5
    go_wp2_with fail
    refine (HW.out _ (Keeps.refl _ _)).mono ?_
    rintro e w2 ⟨rfl, k2⟩
    have HK := Lib.hid k2
    clear k2
    go_wp2_with fail
    go_ret
    exact ⟨rfl, HK.out⟩
  · have hn2 : n ≤ 60 := by omega
    go_enter Tryz.func5, Tryz.ntmps5
    go_wp2_with fail
    refine (snewF HE.out (Keeps.refl _ _) (by decide) (by decide)).mono ?_
    rintro e w1 ⟨s, FT, rfl, S1, k1⟩
    have HS1 := Lib.hid S1
    clear S1 k1
    go_wp2_with fail
    have hsam := sample_any w1 z330
    rw [samh] at hsam
    refine hsam.mono ?_
    clear hsam
    rintro e w2 ⟨rfl, k2⟩
    have HS2 := Lib.hid (HS1.out.keeps k2 (fun _ _ h => h) (fun _ _ h => h))
    clear k2
    go_wp2_with fail
    have h3 := knew (mostS := 9) HS2.out 0 (by decide) (by decide) (c := h33) (by decide) (by decide) (by rw [items_nil]; decide) (by rw [items_nil]; intro x hx; cases hx) (by rw [newh])
    rw [newh] at h3
    refine h3.mono ?_
    clear h3
    rintro e w3 ⟨xb, rfl, hK, -⟩
    obtain ⟨G3, hG3⟩ : ∃ G3, G3 = Ext FT w2 w3 := ⟨_, rfl⟩
    rw [← hG3] at hK
    have HK3 := Lib.hid (show K33 w w3 G3 s 20000 xb ⟨h33, lnOf h33, Sea.new 9, [], false, 0⟩ 0 [] 0 from hK)
    clear hK hG3
    obtain ⟨lb, c0, h6⟩ := kstart HK3.out (by decide)
    go_wp2_with fail
    rw [show startL (⟨h33, lnOf h33, Sea.new 9, [], false, 0⟩ : Cns).m = (mh1, [(1, [])]) from starth] at h6
    refine h6.mono ?_
    clear h6
    rintro e w6 ⟨v6, rfl, -, hK, -⟩
    obtain ⟨G6, hG6⟩ : ∃ G6, G6 = Ext G3 w3 w6 := ⟨_, rfl⟩
    rw [← hG6] at hK
    have HK6 := Lib.hid (show K33 w w6 G6 s 20000 xb ⟨h33, mh1, Sea.new 9, [], false, 0⟩ 0 [] 1 from hK)
    clear hK hG6 c0
    obtain ⟨lb2, c0, h7⟩ := kopened HK6.out (by decide) 0 0 true
    go_wp2_with fail
    rw [show openedL (⟨h33, mh1, Sea.new 9, [], false, 0⟩ : Cns).m 0 true 0 = (mh2, []) from openh] at h7
    refine h7.mono ?_
    clear h7
    rintro e w7 ⟨v7, rfl, -, hK, -⟩
    have HI7 := Lib.hid (show HandI w s xb n 0 [] w7 from ⟨Nat.zero_le _, Nat.zero_le _, _, _, hK⟩)
    clear hK c0
    go_wp2_with fail
    go_loopw [7, 8, 9] (fun u7 u8 u9 wr => ∃ (i : Nat) (g : List UInt8), u9 = .int .i64 i ∧ u7 = .string (str g) ∧ u8 = .string (str g) ∧ Hid (HandI w s xb n i g wr)) (fun _ _ u9 _ => n - (intOf u9).toNat)
    case atStart => exact ⟨0, [], rfl, rfl, rfl, HI7⟩
    case round =>
      obtain ⟨i, g, rfl, rfl, rfl, HI⟩ := hrel
      obtain ⟨hi, hg, sea, G, hK⟩ := HI.out
      by_cases hlt : i < n
      · obtain ⟨x, b, off, hx, rfl, hb, hc⟩ := op33_at HL.out.1 hlt
        obtain ⟨y0, y1, y2, y3, y4⟩ := hc wr hK.base
        have hgd := HL.out.2 x (List.mem_of_getElem? hx)
        obtain ⟨gg, hgg⟩ : ∃ gg, gg = str g := ⟨_, rfl⟩
        rw [← hgg]
        have hgz : gg.size ≤ 300 * i := by rw [hgg, str_size]; exact hg
        have hgz2 : gg.size ≤ 18000 := by omega
        have HG := Lib.hid hgg
        have HGL := Lib.hid hg
        have HX := Lib.hid hgd
        have HK := Lib.hid hK
        obtain ⟨xk, xs, xid, xok, xa, xn, xc, xl⟩ := x
        simp only at y0 y1 y2 y3 y4
        by_cases hz : 300 < xs.size
        · clear HI hx hc hb hgd hgg hg hK
          go_wp2_with fail
          exact ⟨⟨i + 1, g, by go_num, by rw [HG.out], by rw [HG.out], Lib.hid ⟨by omega, by have := HGL.out; omega, sea, G, (HK.out.same ((Keeps.refl _ _).alloc _)).next (by omega)⟩⟩, by simp [intOf]; omega⟩
        · obtain ⟨W1, hW1⟩ : ∃ W1, W1 = wr.alloc (.cells #[.int .u8 xk, .string xs, .int .u8 xid, .bool xok, .slice xa xn xc] 63) := ⟨_, rfl⟩
          have kA : Keeps (fun _ => False) wr W1 := by rw [hW1]; exact (Keeps.refl _ _).alloc _
          have hbo : Blk W1 wr.heap.size 63 #[.int .u8 xk, .string xs, .int .u8 xid, .bool xok, .slice xa xn xc] := by rw [hW1]; exact Blk.new _ _ _
          obtain ⟨ob, hob⟩ : ∃ ob, ob = wr.heap.size := ⟨_, rfl⟩
          have hno : ¬ G ob := fun e => by have := hK.inn ob e; omega
          have HK1 := Lib.hid (hK.same kA)
          obtain ⟨sb, h10, h11, -⟩ := kseat (hK.same kA)
          have H10 := Lib.hid h10
          have h11 := h11 W1 (Keeps.refl _ _)
          obtain ⟨wv, hwv⟩ : ∃ wv : Int, wv = if (xh sea).s.wr = -1 then 0 else (xh sea).s.wr := ⟨_, rfl⟩
          obtain ⟨hd, hhd⟩ : ∃ hd : Bool, hd = decide ((xh sea).s.wr ≠ -1) := ⟨_, rfl⟩
          rw [← hwv, ← hhd] at h11
          have HWV := Lib.hid (show (hd = true ↔ sea.wr ≠ -1) ∧ (hd = true → wv = sea.wr) from ⟨by rw [hhd]; exact decide_eq_true_iff, fun h => by rw [hwv]; rw [hhd] at h; rw [if_neg (of_decide_eq_true h)]; rfl⟩)
          obtain ⟨sl, hsl⟩ : ∃ sl, sl = xs.data.toList := ⟨_, rfl⟩
          have hxs : xs = str sl := by rw [hsl]; rfl
          have hsz : sl.length ≤ 300 := by have := congrArg ByteArray.size hxs; rw [str_size] at this; omega
          have hid : ((xid : Nat) : Int).tmod 5 = ((xid % 5 : Nat) : Int) := tmod_nat xid 5
          have hkd : ((xk : Nat) : Int).tmod 4 = ((xk % 4 : Nat) : Int) := tmod_nat xk 4
          obtain ⟨who, hwho⟩ : ∃ who, who = xid % 5 := ⟨_, rfl⟩
          have hw5 : who < 5 := by omega
          rw [← hwho] at hid
          have HSL := Lib.hid hxs
          have HSZ := Lib.hid hsz
          rw [← hob] at hbo
          have HBO := Lib.hid hbo
          have HNO := Lib.hid hno
          have ob0 := hbo.cell 0
          have ob1 := hbo.cell 1
          have ob2 := hbo.cell 2
          simp only [List.getElem?_toArray, List.getElem?_cons_zero, List.getElem?_cons_succ] at ob0 ob1 ob2
          have hzz : xs.size ≤ 300 := by omega
          clear HI hx hc hb hgd hgg hg hK hsl hxs hsz kA hbo hno hwho h10 hwv hhd
          subst hW1 hob
          go_wp2_with fail
          refine H10.out.mono ?_
          rintro e w10 ⟨rfl, hw⟩
          obtain rfl := hw
          go_wp2_with fail
          refine h11.mono ?_
          rintro e w11 ⟨rfl, hw⟩
          obtain rfl := hw
          clear h11
          obtain ⟨q, hq⟩ : ∃ q, q = xk % 4 := ⟨_, rfl⟩
          have hq4 : q = 0 ∨ q = 1 ∨ q = 2 ∨ q = 3 := by omega
          rw [← hq] at hkd
          clear hq
          obtain rfl | rfl | rfl | rfl := hq4
          · cases hd with
            | false =>
              have h12 := ktype HK1.out (by omega) (who : Int) sl (by have := HSZ.out; omega)
              rw [typeh, if_neg (fun e => by have := HWV.out.1.2 e.1; cases this), ← HSL.out] at h12
              have H12 := Lib.hid h12
              clear h12
              go_wp2_with fail
              refine H12.out.mono ?_
              rintro e w12 ⟨v12, rfl, hO, hK, k12⟩
              obtain ⟨a12, cp12, rfl, hsl12⟩ := hO.sla outR_len
              obtain ⟨n12, hn12⟩ : ∃ n12, n12 = ([] : List OutP).length := ⟨_, rfl⟩
              rw [← hn12] at hsl12 ⊢
              have hb12 := HBO.out.keeps k12 HNO.out
              have p1 := hb12.cell 1
              simp only [List.getElem?_toArray, List.getElem?_cons_zero, List.getElem?_cons_succ] at p1
              have HK12 := Lib.hid hK
              have HB12 := Lib.hid hb12
              have h13 := r19written_any w12 a12 n12 cp12 ([] : List OutP) hsl12 (by rw [hn12]; decide) (by rw [show writtenL ([] : List OutP) = [] from rfl]; have := HSZ.out; decide)
              rw [show writtenL ([] : List OutP) = [] from rfl, show str [] = (⟨#[]⟩ : ByteArray) from rfl] at h13
              have H13 := Lib.hid h13
              clear hO hK k12 hsl12 hn12 hb12 h13
              go_wp2_with fail
              refine H13.out.mono ?_
              rintro e w13 ⟨rfl, k13⟩
              have hb13 := HB12.out.keeps k13 (fun h => h)
              have q1 := hb13.cell 1
              simp only [List.getElem?_toArray, List.getElem?_cons_zero, List.getElem?_cons_succ] at q1
              have HK13 := Lib.hid (HK12.out.same k13)
              clear p1 hb13 k13
              have hge : gg ++ (⟨#[]⟩ : ByteArray) = gg := by apply ba_ext; simp
              go_wp2_with fail
              exact ⟨⟨i + 1, g, by go_num, by rw [HG.out], by rw [HG.out], Lib.hid ⟨by omega, by have := HGL.out; omega, sea, _, HK13.out⟩⟩, by simp [intOf]; omega⟩
            | true =>
              by_cases hwe : wv = (who : Int)
              · have h12 := ktype HK1.out (by omega) (who : Int) sl (by have := HSZ.out; omega)
                rw [typeh, if_pos ⟨HWV.out.1.1 rfl, by rw [← HWV.out.2 rfl]; exact hwe⟩, ← HSL.out] at h12
                have H12 := Lib.hid h12
                clear h12
                have hwb : (wv == (who : Int)) = true := by simpa using hwe
                clear hwe
                go_wp2_with fail
                refine H12.out.mono ?_
                rintro e w12 ⟨v12, rfl, hO, hK, k12⟩
                obtain ⟨a12, cp12, rfl, hsl12⟩ := hO.sla outR_len
                obtain ⟨n12, hn12⟩ : ∃ n12, n12 = (if sl = [] then [] else [((3 : Int), sl)] : List OutP).length := ⟨_, rfl⟩
                rw [← hn12] at hsl12 ⊢
                have hb12 := HBO.out.keeps k12 HNO.out
                have p1 := hb12.cell 1
                simp only [List.getElem?_toArray, List.getElem?_cons_zero, List.getElem?_cons_succ] at p1
                have HK12 := Lib.hid hK
                have HB12 := Lib.hid hb12
                have h13 := r19written_any w12 a12 n12 cp12 (if sl = [] then [] else [((3 : Int), sl)] : List OutP) hsl12 (by rw [hn12]; have := outh_len sl; omega) (by rw [writtenh]; have := HSZ.out; omega)
                rw [writtenh, ← HSL.out] at h13
                have H13 := Lib.hid h13
                clear hO hK k12 hsl12 hn12 hb12 h13
                go_wp2_with fail
                refine H13.out.mono ?_
                rintro e w13 ⟨rfl, k13⟩
                have hb13 := HB12.out.keeps k13 (fun h => h)
                have q1 := hb13.cell 1
                simp only [List.getElem?_toArray, List.getElem?_cons_zero, List.getElem?_cons_succ] at q1
                have HK13 := Lib.hid (HK12.out.same k13)
                clear p1 hb13 k13
                go_wp2_with fail
                exact ⟨⟨i + 1, g ++ sl, by go_num, by rw [HG.out, HSL.out, str_appW], by rw [HG.out, HSL.out, str_appW], Lib.hid ⟨by omega, by rw [List.length_append]; have := HGL.out; have := HSZ.out; omega, sea, _, HK13.out⟩⟩, by simp [intOf]; omega⟩
              · have h12 := ktype HK1.out (by omega) (who : Int) sl (by have := HSZ.out; omega)
                rw [typeh, if_neg (fun e => hwe (by rw [HWV.out.2 rfl]; exact e.2)), ← HSL.out] at h12
                have H12 := Lib.hid h12
                clear h12
                have hwb : (wv == (who : Int)) = false := by simpa using hwe
                clear hwe
                go_wp2_with fail
                refine H12.out.mono ?_
                rintro e w12 ⟨v12, rfl, hO, hK, k12⟩
                obtain ⟨a12, cp12, rfl, hsl12⟩ := hO.sla outR_len
                obtain ⟨n12, hn12⟩ : ∃ n12, n12 = ([] : List OutP).length := ⟨_, rfl⟩
                rw [← hn12] at hsl12 ⊢
                have hb12 := HBO.out.keeps k12 HNO.out
                have p1 := hb12.cell 1
                simp only [List.getElem?_toArray, List.getElem?_cons_zero, List.getElem?_cons_succ] at p1
                have HK12 := Lib.hid hK
                have HB12 := Lib.hid hb12
                have h13 := r19written_any w12 a12 n12 cp12 ([] : List OutP) hsl12 (by rw [hn12]; decide) (by rw [show writtenL ([] : List OutP) = [] from rfl]; have := HSZ.out; decide)
                rw [show writtenL ([] : List OutP) = [] from rfl, show str [] = (⟨#[]⟩ : ByteArray) from rfl] at h13
                have H13 := Lib.hid h13
                clear hO hK k12 hsl12 hn12 hb12 h13
                go_wp2_with fail
                refine H13.out.mono ?_
                rintro e w13 ⟨rfl, k13⟩
                have hb13 := HB12.out.keeps k13 (fun h => h)
                have q1 := hb13.cell 1
                simp only [List.getElem?_toArray, List.getElem?_cons_zero, List.getElem?_cons_succ] at q1
                have HK13 := Lib.hid (HK12.out.same k13)
                clear p1 hb13 k13
                have hge : gg ++ (⟨#[]⟩ : ByteArray) = gg := by apply ba_ext; simp
                go_wp2_with fail
                exact ⟨⟨i + 1, g, by go_num, by rw [HG.out], by rw [HG.out], Lib.hid ⟨by omega, by have := HGL.out; omega, sea, _, HK13.out⟩⟩, by simp [intOf]; omega⟩
          · cases hd with
            | false =>
              have h12 := ktype HK1.out (by omega) (who : Int) sl (by have := HSZ.out; omega)
              rw [typeh, if_neg (fun e => by have := HWV.out.1.2 e.1; cases this), ← HSL.out] at h12
              have H12 := Lib.hid h12
              clear h12
              go_wp2_with fail
              refine H12.out.mono ?_
              rintro e w12 ⟨v12, rfl, hO, hK, k12⟩
              obtain ⟨a12, cp12, rfl, hsl12⟩ := hO.sla outR_len
              obtain ⟨n12, hn12⟩ : ∃ n12, n12 = ([] : List OutP).length := ⟨_, rfl⟩
              rw [← hn12] at hsl12 ⊢
              have hb12 := HBO.out.keeps k12 HNO.out
              have p1 := hb12.cell 1
              simp only [List.getElem?_toArray, List.getElem?_cons_zero, List.getElem?_cons_succ] at p1
              have HK12 := Lib.hid hK
              have HB12 := Lib.hid hb12
              have h13 := r19written_any w12 a12 n12 cp12 ([] : List OutP) hsl12 (by rw [hn12]; decide) (by rw [show writtenL ([] : List OutP) = [] from rfl]; have := HSZ.out; decide)
              rw [show writtenL ([] : List OutP) = [] from rfl, show str [] = (⟨#[]⟩ : ByteArray) from rfl] at h13
              have H13 := Lib.hid h13
              clear hO hK k12 hsl12 hn12 hb12 h13
              go_wp2_with fail
              refine H13.out.mono ?_
              rintro e w13 ⟨rfl, k13⟩
              have hb13 := HB12.out.keeps k13 (fun h => h)
              have q1 := hb13.cell 1
              simp only [List.getElem?_toArray, List.getElem?_cons_zero, List.getElem?_cons_succ] at q1
              have HK13 := Lib.hid (HK12.out.same k13)
              clear p1 hb13 k13
              have hge : gg ++ (⟨#[]⟩ : ByteArray) = gg := by apply ba_ext; simp
              go_wp2_with fail
              exact ⟨⟨i + 1, g, by go_num, by rw [HG.out], by rw [HG.out], Lib.hid ⟨by omega, by have := HGL.out; omega, sea, _, HK13.out⟩⟩, by simp [intOf]; omega⟩
            | true =>
              by_cases hwe : wv = (who : Int)
              · have h12 := ktype HK1.out (by omega) (who : Int) sl (by have := HSZ.out; omega)
                rw [typeh, if_pos ⟨HWV.out.1.1 rfl, by rw [← HWV.out.2 rfl]; exact hwe⟩, ← HSL.out] at h12
                have H12 := Lib.hid h12
                clear h12
                have hwb : (wv == (who : Int)) = true := by simpa using hwe
                clear hwe
                go_wp2_with fail
                refine H12.out.mono ?_
                rintro e w12 ⟨v12, rfl, hO, hK, k12⟩
                obtain ⟨a12, cp12, rfl, hsl12⟩ := hO.sla outR_len
                obtain ⟨n12, hn12⟩ : ∃ n12, n12 = (if sl = [] then [] else [((3 : Int), sl)] : List OutP).length := ⟨_, rfl⟩
                rw [← hn12] at hsl12 ⊢
                have hb12 := HBO.out.keeps k12 HNO.out
                have p1 := hb12.cell 1
                simp only [List.getElem?_toArray, List.getElem?_cons_zero, List.getElem?_cons_succ] at p1
                have HK12 := Lib.hid hK
                have HB12 := Lib.hid hb12
                have h13 := r19written_any w12 a12 n12 cp12 (if sl = [] then [] else [((3 : Int), sl)] : List OutP) hsl12 (by rw [hn12]; have := outh_len sl; omega) (by rw [writtenh]; have := HSZ.out; omega)
                rw [writtenh, ← HSL.out] at h13
                have H13 := Lib.hid h13
                clear hO hK k12 hsl12 hn12 hb12 h13
                go_wp2_with fail
                refine H13.out.mono ?_
                rintro e w13 ⟨rfl, k13⟩
                have hb13 := HB12.out.keeps k13 (fun h => h)
                have q1 := hb13.cell 1
                simp only [List.getElem?_toArray, List.getElem?_cons_zero, List.getElem?_cons_succ] at q1
                have HK13 := Lib.hid (HK12.out.same k13)
                clear p1 hb13 k13
                go_wp2_with fail
                exact ⟨⟨i + 1, g ++ sl, by go_num, by rw [HG.out, HSL.out, str_appW], by rw [HG.out, HSL.out, str_appW], Lib.hid ⟨by omega, by rw [List.length_append]; have := HGL.out; have := HSZ.out; omega, sea, _, HK13.out⟩⟩, by simp [intOf]; omega⟩
              · have h12 := ktype HK1.out (by omega) (who : Int) sl (by have := HSZ.out; omega)
                rw [typeh, if_neg (fun e => hwe (by rw [HWV.out.2 rfl]; exact e.2)), ← HSL.out] at h12
                have H12 := Lib.hid h12
                clear h12
                have hwb : (wv == (who : Int)) = false := by simpa using hwe
                clear hwe
                go_wp2_with fail
                refine H12.out.mono ?_
                rintro e w12 ⟨v12, rfl, hO, hK, k12⟩
                obtain ⟨a12, cp12, rfl, hsl12⟩ := hO.sla outR_len
                obtain ⟨n12, hn12⟩ : ∃ n12, n12 = ([] : List OutP).length := ⟨_, rfl⟩
                rw [← hn12] at hsl12 ⊢
                have hb12 := HBO.out.keeps k12 HNO.out
                have p1 := hb12.cell 1
                simp only [List.getElem?_toArray, List.getElem?_cons_zero, List.getElem?_cons_succ] at p1
                have HK12 := Lib.hid hK
                have HB12 := Lib.hid hb12
                have h13 := r19written_any w12 a12 n12 cp12 ([] : List OutP) hsl12 (by rw [hn12]; decide) (by rw [show writtenL ([] : List OutP) = [] from rfl]; have := HSZ.out; decide)
                rw [show writtenL ([] : List OutP) = [] from rfl, show str [] = (⟨#[]⟩ : ByteArray) from rfl] at h13
                have H13 := Lib.hid h13
                clear hO hK k12 hsl12 hn12 hb12 h13
                go_wp2_with fail
                refine H13.out.mono ?_
                rintro e w13 ⟨rfl, k13⟩
                have hb13 := HB12.out.keeps k13 (fun h => h)
                have q1 := hb13.cell 1
                simp only [List.getElem?_toArray, List.getElem?_cons_zero, List.getElem?_cons_succ] at q1
                have HK13 := Lib.hid (HK12.out.same k13)
                clear p1 hb13 k13
                have hge : gg ++ (⟨#[]⟩ : ByteArray) = gg := by apply ba_ext; simp
                go_wp2_with fail
                exact ⟨⟨i + 1, g, by go_num, by rw [HG.out], by rw [HG.out], Lib.hid ⟨by omega, by have := HGL.out; omega, sea, _, HK13.out⟩⟩, by simp [intOf]; omega⟩
          · have hid3 : ((xid : Nat) : Int).tmod 3 = ((xid % 3 : Nat) : Int) := tmod_nat xid 3
            obtain ⟨lv, hlv⟩ : ∃ lv : Nat, lv = xid % 3 := ⟨_, rfl⟩
            rw [← hlv] at hid3
            have hlv3 : lv < 3 := by omega
            have hw4 : IntKind.i64.wrap (lv : Int) = (lv : Int) := wrap_in (by omega) (by omega)
            have hw3 : IntKind.i64.wrap (1 + (lv : Int)) = 1 + (lv : Int) := wrap_in (by omega) (by omega)
            obtain ⟨sb2, hs2, hc2⟩ := kcall_w HK1.out (by omega) (who : Int) (1 + (lv : Int)) (by omega) (by omega)
            have HS2' := Lib.hid hs2
            have HC2 := Lib.hid hc2
            clear hs2 hc2 hlv h11 H10 ob0 ob1 y0 y1 y2 y3 y4
            go_wp2_with fail
            have HG1 := Lib.hid (HK1.out.inn)
            obtain ⟨W1, hW1⟩ : ∃ W1, W1 = wr.alloc (.cells #[.int .u8 xk, .string xs, .int .u8 xid, .bool xok, .slice xa xn xc] 63) := ⟨_, rfl⟩
            rw [← hW1] at HS2' HC2 HBO ob2 ⊢
            clear hW1
            obtain ⟨ob, hob⟩ : ∃ ob, ob = wr.heap.size := ⟨_, rfl⟩
            rw [← hob] at HBO HNO ob2 ⊢
            clear hob
            go_region_with ((first
              | (go_at_call 24; refine (HS2'.out _ (by (repeat (first | (with_reducible assumption) | (with_reducible exact Keeps.refl _ _) | refine Keeps.drew ?_ | refine Keeps.drewN ?_ _ | refine Keeps.setCell ?_ (by simp) _ | refine Keeps.setRow ?_ (by simp) _ | refine Keeps.alloc ?_ _)))).mono ?_; rintro e w12 ⟨rfl, hw⟩; obtain rfl := hw)
              | (go_at_call 32; refine (HC2.out _ (by (repeat (first | (with_reducible assumption) | (with_reducible exact Keeps.refl _ _) | refine Keeps.drew ?_ | refine Keeps.drewN ?_ _ | refine Keeps.setCell ?_ (by simp) _ | refine Keeps.setRow ?_ (by simp) _ | refine Keeps.alloc ?_ _)))).mono ?_; rintro e w13 ⟨o, rfl, hK, -⟩; have HK13 := Lib.hid hK; clear hK)))
            all_goals
              go_wp2_with fail
              exact ⟨⟨i + 1, g, by go_num, by rw [HG.out], by rw [HG.out], Lib.hid ⟨by omega, by have := HGL.out; omega, _, _, HK13.out⟩⟩, by simp [intOf]; omega⟩
          · obtain ⟨sb2, hs2, hc2⟩ := kleave HK1.out (by omega) (who : Int)
            have HC2 := Lib.hid hc2
            clear hc2
            go_wp2_with fail
            refine hs2.mono ?_
            clear hs2
            rintro e w12 ⟨rfl, hw⟩
            obtain rfl := hw
            go_wp2_with fail
            refine HC2.out.mono ?_
            rintro e w13 ⟨o, rfl, hK, -⟩
            have HK13 := Lib.hid hK
            clear hK
            go_wp2_with fail
            exact ⟨⟨i + 1, g, by go_num, by rw [HG.out], by rw [HG.out], Lib.hid ⟨by omega, by have := HGL.out; omega, _, _, HK13.out⟩⟩, by simp [intOf]; omega⟩
      · have hie : i = n := by omega
        subst hie
        have HK := Lib.hid hK
        clear HI hg hK
        go_wp2_with fail
        refine (HW.out _ HK.out.base).mono ?_
        rintro e w9 ⟨rfl, k9⟩
        have HK9 := Lib.hid (HK.out.base.trans k9)
        clear k9
        go_wp2_with fail
        go_ret
        exact ⟨rfl, HK9.out⟩
end
end Go.Proofs.YtkmpdobojgiegaaGreatDoor
