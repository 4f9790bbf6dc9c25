/-
  works of law22: true, and only new blocks.
-/
import Derived.Test.YtfbdpmeelejdhaaQJourC
import Derived.Test.YtfbdpmeelejdhaaQRecJ
namespace Go.Proofs.Ytfbdpmeelejdhaa
open Go.RowKit Go.Maps

abbrev jLog : ByteArray := ⟨#[108, 111, 103]⟩
abbrev jLog1 : ByteArray := ⟨#[108, 111, 103, 46, 49]⟩
def x10 : Itm := ⟨1, 0, ⟨#[48, 49, 50, 51, 52, 53, 54, 55, 56, 57]⟩⟩
def x1 : Itm := ⟨1, 0, ⟨#[120]⟩⟩
def y1 : Itm := ⟨1, 0, ⟨#[121]⟩⟩
def g9 : Itm := ⟨3, 9, ⟨#[50]⟩⟩
def B10 : ByteArray := str (recP x10)
def G9 : ByteArray := str (recP g9)
theorem x10_ok : x10.ok := ⟨⟨by decide, by decide⟩, ⟨by decide, by decide⟩, by decide⟩
theorem x1_ok : x1.ok := ⟨⟨by decide, by decide⟩, ⟨by decide, by decide⟩, by decide⟩
theorem y1_ok : y1.ok := ⟨⟨by decide, by decide⟩, ⟨by decide, by decide⟩, by decide⟩
theorem g9_ok : g9.ok := ⟨⟨by decide, by decide⟩, ⟨by decide, by decide⟩, by decide⟩
theorem gap9 : gapI 9 2 = g9 := by unfold gapI; rw [dec_pos (by omega), show ((2 : Nat) : Int).toNat = 2 from rfl, decN_small (by decide)]; rfl
theorem jL0 : genName jLog ((0 : Nat) : Int) = jLog := genName_zero (by omega)
theorem jL1 : genName jLog ((1 : Nat) : Int) = jLog1 := by rw [genName_pos (by omega), dec_pos (by omega), decN_small (by decide)]; rfl
theorem putA : putP 1000 jLog 2 64 0 [] B10 = (0, 0, [⟨jLog, B10, 0⟩]) := by kernel_rfl
theorem putB : putP 1000 jLog 2 64 0 [⟨jLog, B10, 0⟩] B10 = (0, 0, [⟨jLog, B10 ++ B10, 0⟩]) := by kernel_rfl
def l3 : List SFile := [⟨jLog, B10, 0⟩, ⟨jLog1, B10 ++ B10, 48⟩]
def l4 : List SFile := [⟨jLog, B10 ++ G9, 0⟩, ⟨jLog1, B10 ++ B10, 48⟩]
theorem turnC : turnedP jLog 2 0 [⟨jLog, B10 ++ B10, 0⟩] = (0, 0, [⟨jLog1, B10 ++ B10, 48⟩]) := by
  unfold turnedP
  rw [show syncP 0 [⟨jLog, B10 ++ B10, 0⟩] jLog = (0, 0, [⟨jLog, B10 ++ B10, 48⟩]) from by kernel_rfl, if_neg (by simp)]
  have h1 : goneP jLog 1 0 [⟨jLog, B10 ++ B10, 48⟩] = (0, 0, [⟨jLog, B10 ++ B10, 48⟩]) := by unfold goneP genF; rw [jL1]; kernel_rfl
  show turnP jLog 1 0 [⟨jLog, B10 ++ B10, 48⟩] = _
  unfold turnP
  rw [h1, if_neg (by simp)]
  rw [turnL_cons_some (base := jLog) (j := 0) (bad := 0) (l := [⟨jLog, B10 ++ B10, 48⟩]) (f := ⟨jLog, B10 ++ B10, 48⟩) (x := (0, 0, [⟨jLog1, B10 ++ B10, 48⟩])) (by unfold genF; rw [jL0]; rfl) (by rw [jL0, jL1]; kernel_rfl), if_neg (by simp)]
  rfl
theorem putC : putP 1000 jLog 2 64 0 [⟨jLog, B10 ++ B10, 0⟩] B10 = (0, 0, l3) := by
  unfold putP
  rw [turnC, if_pos (by decide +kernel), if_neg (by simp)]
  kernel_rfl
theorem putD (b : ByteArray) (hb : b.size = 15) : putP 1000 jLog 2 64 1 l3 b = (12, 0, l3) := by
  unfold putP
  rw [if_neg (by rw [hb]; decide +kernel)]
  unfold appendP
  rw [show beginC 1 jLog = (12, 0) from by kernel_rfl, if_pos (by simp)]
theorem putE : putP 1000 jLog 2 64 0 l3 G9 = (0, 0, l4) := by kernel_rfl
theorem syncE : (syncP 0 l4 jLog).1 = 0 := by kernel_rfl
theorem scanE : scanI (B10 ++ G9).data.toList = [x10, g9] := by
  have h := scan_flat (xs := [x10, g9]) (by intro x hx; simp only [List.mem_cons, List.not_mem_nil, or_false] at hx; rcases hx with rfl | rfl; exact x10_ok; exact g9_ok) []
  rw [List.append_nil, scan_nil, List.append_nil] at h
  rw [← h]
  congr 1
section
variable {w0 w w' : World} {s M jb bad n k size lost : Nat} {most : Int} {L : List SRep} {base : ByteArray} {rest : Bool}
/-- an item is taken -/
theorem jadd_ok (h : Jour w0 w s M jb most bad L n base k size false lost) (hn : n ≤ 999000) (hbn : base.size ≤ 64) (hll : lost ≤ 1000000) (x : Itm) (hx : x.ok) {b' : Nat} {l' : List SFile} (hR : putP most base k size bad (L.map SRep.f) (str (recP x)) = (0, b', l')) :
    Calls Try.prog 12 #[.pointer (some ⟨jb, 0, none⟩), itmV x] w fun e w' => ∃ L', e = .returned (.bool true) ∧ Jour w0 w' s M jb most b' L' (n + 19) base k size false lost ∧ L'.map SRep.f = l' := by
  have ha := jadd h hn hbn hll x hx
  rw [hR] at ha
  refine ha.mono ?_
  rintro e w1 (⟨L', he, -, h0, hJ, hl, -⟩ | ⟨L', he, -, h0, -⟩ | ⟨L', he, hr, -⟩)
  · exact ⟨L', he, hJ, hl⟩
  · exact absurd rfl h0
  · cases hr
/-- .. and is not, for the store fails -/
theorem jadd_no (h : Jour w0 w s M jb most bad L n base k size false lost) (hn : n ≤ 999000) (hbn : base.size ≤ 64) (hll : lost ≤ 1000000) (x : Itm) (hx : x.ok) {c : Int} {b' : Nat} {l' : List SFile} (hR : putP most base k size bad (L.map SRep.f) (str (recP x)) = (c, b', l')) (hc : c ≠ 0) :
    Calls Try.prog 12 #[.pointer (some ⟨jb, 0, none⟩), itmV x] w fun e w' => ∃ L', e = .returned (.bool false) ∧ Jour w0 w' s M jb most b' L' (n + 19) base k size true (lost + 1) ∧ L'.map SRep.f = l' := by
  have ha := jadd h hn hbn hll x hx
  rw [hR] at ha
  refine ha.mono ?_
  rintro e w1 (⟨L', he, -, h0, -⟩ | ⟨L', he, -, h0, hJ, hl, -⟩ | ⟨L', he, hr, -⟩)
  · exact absurd h0 hc
  · exact ⟨L', he, hJ, hl⟩
  · cases hr
/-- .. or for it rests -/
theorem jadd_rest (h : Jour w0 w s M jb most bad L n base k size true lost) (hn : n ≤ 999000) (hbn : base.size ≤ 64) (hll : lost ≤ 1000000) (x : Itm) (hx : x.ok) :
    Calls Try.prog 12 #[.pointer (some ⟨jb, 0, none⟩), itmV x] w fun e w' => ∃ L', e = .returned (.bool false) ∧ Jour w0 w' s M jb most bad L' (n + 19) base k size true (lost + 1) ∧ L'.map SRep.f = L.map SRep.f := by
  refine (jadd h hn hbn hll x hx).mono ?_
  rintro e w1 (⟨L', he, hr, -⟩ | ⟨L', he, hr, -⟩ | ⟨L', he, -, hJ, hl, -⟩)
  · cases hr
  · cases hr
  · exact ⟨L', he, hJ, hl⟩
/-- the next calls of its store fail -/
theorem jfail (h : Jour w0 w s M jb most bad L n base k size rest lost) (q : Int) (hq : q ≤ 9223372036854775807) : Calls Try.prog 11 #[.pointer (some ⟨s, 0, none⟩), .int .i64 q] w fun e w' => ∃ L', e = .returned (.tuple #[]) ∧ Jour w0 w' s M jb most q.toNat L' n base k size rest lost ∧ L'.map SRep.f = L.map SRep.f ∧ Keeps (fun i => w0.heap.size ≤ i ∧ StT w i) w w' := by
  refine (sfail h.sto q hq).mono ?_
  rintro e w1 ⟨L', he, hS, hl, kk⟩
  exact ⟨L', he, h.move hS kk, hl, kk⟩
end
set_option maxRecDepth 100000 in
set_option maxHeartbeats 2000000 in
theorem works22 (w : World) (he : Ety w) : Calls Try.prog 4 #[] w fun e w' => e = .returned (.bool true) ∧ Keeps (fun _ => False) w w' := by
  have HE := Lib.hid he
  clear he
  have hb10 : B10.size = 24 := by decide +kernel
  go_enter Try.func4, Try.ntmps4
  go_wp2_with fail
  refine (snew_ok HE.out (Keeps.refl _ _) (by decide) (by decide)).mono ?_
  rintro e w1 ⟨s, M, rfl, S1, k1⟩
  have HS1 := Lib.hid S1
  clear S1 k1
  go_wp2_with fail
  refine (jnew HS1.out jLog (by decide) 2 64 (by decide) (by decide)).mono ?_
  rintro e w2 ⟨⟨jb, rfl, J2⟩, k2⟩
  have HJ2 := Lib.hid J2
  clear J2 k2
  go_wp2_with fail
  refine (jnew_range w2 s jLog 64).mono ?_
  rintro e w3 ⟨rfl, hw⟩
  obtain rfl : w2 = w3 := hw.symm
  go_wp2_with fail
  refine (jnew_nil w2 jLog 1 64).mono ?_
  rintro e w3 ⟨rfl, hw⟩
  obtain rfl : w2 = w3 := hw.symm
  go_wp2_with fail
  refine (jadd_ok HJ2.out (by decide) (by decide) (by decide) x10 x10_ok (show putP 1000 jLog 2 64 0 [] B10 = _ from putA)).mono ?_
  rintro e w3 ⟨L3, rfl, J3, hl3⟩
  have HJ3 := Lib.hid J3
  have HL3 := Lib.hid hl3
  clear J3 hl3
  go_wp2_with fail
  refine (jadd_ok HJ3.out (by decide) (by decide) (by decide) x10 x10_ok (by rw [HL3.out]; exact putB)).mono ?_
  rintro e w4 ⟨L4, rfl, J4, hl4⟩
  have HJ4 := Lib.hid J4
  have HL4 := Lib.hid hl4
  clear J4 hl4
  go_wp2_with fail
  refine (ssize_some HJ4.out.sto (nm := jLog) (by decide) (f := ⟨jLog, B10 ++ B10, 0⟩) (by rw [HL4.out]; rfl)).mono ?_
  rintro e w5 ⟨rfl, k5⟩
  have HJ5 := Lib.hid (HJ4.out.same k5)
  clear k5
  go_wp2_with fail
  refine (jadd_ok HJ5.out (by decide) (by decide) (by decide) x10 x10_ok (by rw [HL4.out]; exact putC)).mono ?_
  rintro e w6 ⟨L6, rfl, J6, hl6⟩
  have HJ6 := Lib.hid J6
  have HL6 := Lib.hid hl6
  clear J6 hl6
  go_wp2_with fail
  refine (ssize_some HJ6.out.sto (nm := jLog1) (by decide) (f := ⟨jLog1, B10 ++ B10, 48⟩) (by rw [HL6.out]; rfl)).mono ?_
  rintro e w7 ⟨rfl, k7⟩
  have HJ7 := Lib.hid (HJ6.out.same k7)
  clear k7
  go_wp2_with fail
  refine (jfail HJ7.out 1 (by decide)).mono ?_
  rintro e w8 ⟨L8, rfl, J8, hl8, -⟩
  have HJ8 := Lib.hid (show Jour w w8 s M jb 1000 1 L8 _ jLog 2 64 false 0 from J8)
  have HL8 := Lib.hid (hl8.trans HL6.out)
  clear J8 hl8
  go_wp2_with fail
  refine (jadd_no HJ8.out (by decide) (by decide) (by decide) x1 x1_ok (c := 12) (b' := 0) (l' := l3) (by rw [HL8.out]; exact putD _ rfl) (by decide)).mono ?_
  rintro e w9 ⟨L9, rfl, J9, hl9⟩
  have HJ9 := Lib.hid J9
  have HL9 := Lib.hid hl9
  clear J9 hl9
  go_wp2_with fail
  refine (jrests HJ9.out).mono ?_
  rintro e w10 ⟨rfl, hw⟩
  obtain rfl : w9 = w10 := hw.symm
  go_wp2_with fail
  refine (jadd_rest HJ9.out (by decide) (by decide) (by decide) y1 y1_ok).mono ?_
  rintro e w10 ⟨L10, rfl, J10, hl10⟩
  have HJ10 := Lib.hid J10
  have HL10 := Lib.hid (hl10.trans HL9.out)
  clear J10 hl10
  go_wp2_with fail
  refine (jlost HJ10.out).mono ?_
  rintro e w11 ⟨rfl, hw⟩
  obtain rfl : w10 = w11 := hw.symm
  go_wp2_with fail
  refine (jreopen HJ10.out (by decide) (by decide) 9 (by decide)).mono ?_
  rw [HL10.out, gap9, show putP 1000 jLog 2 64 0 l3 (str (recP g9)) = (0, 0, l4) from putE]
  rintro e w11 (⟨L11, rfl, -, -, -, J11, hl11, -⟩ | ⟨L11, rfl, -, -, h0, -⟩ | ⟨L11, rfl, h0, -⟩)
  · have HJ11 := Lib.hid J11
    have HL11 := Lib.hid hl11
    clear J11 hl11
    go_wp2_with fail
    refine (sread_some HJ11.out.sto (nm := jLog) (by decide) (f := ⟨jLog, B10 ++ G9, 0⟩) (by rw [HL11.out]; rfl)).mono ?_
    rintro e w12 ⟨rfl, hw⟩
    obtain rfl : w11 = w12 := hw.symm
    obtain ⟨bg, hbg⟩ : ∃ bg, bg = B10 ++ G9 := ⟨_, rfl⟩
    simp only
    rw [← hbg]
    have hsc := scan_any2 w11 bg (by rw [hbg]; decide +kernel)
    rw [hbg, scanE, ← hbg] at hsc
    have HSC := Lib.hid hsc
    clear hsc hbg
    go_wp2_with fail
    refine HSC.out.mono ?_
    rintro e w12 ⟨⟨v, rfl, hO⟩, k12⟩
    obtain ⟨av, cv, rfl, hsl⟩ := hO.slat
    obtain ⟨b, off, rfl, -, hit⟩ := itm_at (i := 1) (x := g9) hsl rfl
    obtain ⟨c0, c1, c2⟩ := hit _ (Keeps.refl _ _)
    have HJ12 := Lib.hid (HJ11.out.same k12)
    clear hO k12 hsl hit
    unfold g9 at c0 c1 c2
    simp only at c0 c1 c2
    go_wp2_with fail
    refine (jrests HJ12.out).mono ?_
    rintro e w13 ⟨rfl, hw⟩
    obtain rfl : w12 = w13 := hw.symm
    go_wp2_with fail
    have hsy := jsync HJ12.out (by decide)
    rw [HL11.out] at hsy
    refine hsy.mono ?_
    clear hsy
    rintro e w13 (⟨L13, rfl, -, -, J13, -⟩ | ⟨L13, rfl, -, h0, -⟩ | ⟨L13, rfl, h0, -⟩)
    · have HK13 := Lib.hid J13.sto.keeps
      clear J13
      go_wp2_with fail
      go_ret
      exact ⟨rfl, HK13.out⟩
    · exact absurd (.inl syncE) h0
    · cases h0
  · exact absurd rfl h0
  · exact absurd ⟨rfl, by decide⟩ h0
end Go.Proofs.Ytfbdpmeelejdhaa
