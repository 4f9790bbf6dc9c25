/-
  console: Type, Press, Replay, Save, Note.
-/
import Derived.Test.YtkmpdobojgiegaaGreatDoorQConsA
namespace Go.Proofs.YtkmpdobojgiegaaGreatDoor
open Go.RowKit

def typeC (x : Cns) (who : Int) (s : List UInt8) : Cns × List OutP × Int :=
  if writesC x.s who ≠ 0 then (x, [], writesC x.s who)
  else if (sendL x.m s).2.2 = true then ({ x with m := (sendL x.m s).1 }, (sendL x.m s).2.1, 0)
  else if 3 ≤ (sendL x.m s).1.st then ({ x with m := (sendL x.m s).1 }, [], 6) else ({ x with m := (sendL x.m s).1 }, [], 9)
section
variable {w0 w w' : World} {F G S FT : Nat → Prop} {tag : Nat → Nat} {xb st lb sb pb g b jb n : Nat} {x : Cns} {most : Int} {bad : Nat} {l : List SFile}
/-- nothing befell it -/
theorem ConsV.same (h : ConsV w F tag xb st x lb sb pb g b jb) (k : Keeps (fun _ => False) w w') (j : Nat) : ConsV w' (Ext F w w') (tagE tag w j) xb st x lb sb pb g b jb := by
  have hI := h.inn.ext k.size
  exact ⟨h.top.keeps k (fun h => h), (h.line.keeps k (fun _ _ h => h)).mono (fun i hi => hi.old h.inn) hI.pt, (h.seat.keeps k (fun _ _ h => h)).mono (fun i hi => hi.old h.inn) hI.pt, h.past.keeps k (fun h => h) (fun h => h) (fun h => h), h.log.keeps k (fun h => h), ⟨h.pp.1.old h.inn, h.pp.2.1.old h.inn, h.pp.2.2.old h.inn⟩, h.pj.old h.inn, h.px.old h.inn, hI, h.ok⟩
set_option maxRecDepth 100000 in
theorem ctype (h : ConsV w F tag xb st x lb sb pb g b jb) (who : Int) (s : List UInt8) (hs : s.length ≤ 1048576) : Calls Tryz.prog 30 #[.pointer (some ⟨xb, 0, none⟩), .int .i64 who, .string (str s)] w fun e w' =>
    ∃ v, e = .returned (.tuple #[v, .int .i64 (typeC x who s).2.2]) ∧ OwnS outR 2 w' w.heap.size 98 v (typeC x who s).2.1 ∧ ConsV w' (Ext F w w') (tagE tag w 1) xb st (typeC x who s).1 lb sb pb g b jb ∧ Keeps F w w' := by
  have HV := Lib.hid h
  have HW := Lib.hid (cwrites h who)
  have HS := Lib.hid (lsend h.line h.ok s hs)
  obtain ⟨c0, c1, c2, c3, c4⟩ := h.cells
  obtain ⟨R, hR⟩ : ∃ R, R = sendL x.m s := ⟨_, rfl⟩
  obtain ⟨T, hT⟩ : ∃ T, T = typeC x who s := ⟨_, rfl⟩
  have hT2 : T = if writesC x.s who ≠ 0 then (x, [], writesC x.s who) else if R.2.2 = true then ({ x with m := R.1 }, R.2.1, 0) else if 3 ≤ R.1.st then ({ x with m := R.1 }, [], 6) else ({ x with m := R.1 }, [], 9) := by rw [hT, hR]; rfl
  have HOK := Lib.hid (show LnOk R.1 from by rw [hR]; exact h.ok.send s)
  rw [← hR] at HS
  rw [← hT]
  have HT := Lib.hid hT2
  clear h hR hT hT2
  obtain ⟨c, hc⟩ : ∃ c, c = writesC x.s who := ⟨_, rfl⟩
  rw [← hc] at HW HT
  clear hc
  by_cases h0 : c = 0
  · subst h0
    cases hr : R.2.2 with
    | true =>
      have HTT : Hid (T = ({ x with m := R.1 }, R.2.1, 0)) := Lib.hid (by rw [HT.out, if_neg (by simp), if_pos hr])
      rw [hr] at HS
      clear hr
      go_enter Tryz.func30, Tryz.ntmps30
      go_wp2_with fail
      refine HW.out.mono ?_
      rintro e w2 ⟨rfl, hw⟩
      obtain rfl : w = w2 := hw.symm
      go_wp2_with fail
      refine HS.out.mono ?_
      rintro e w2 ⟨v, rfl, hX⟩
      have HX := Lib.hid hX
      clear hX c0
      go_wp2_with fail
      go_ret2
      rw [HTT.out]
      have kF : Keeps F w w2 := HX.out.2.2.mono fun _ _ e => e.1
      exact ⟨_, rfl, HX.out.1, HV.out.lined HX.out.2.1 HX.out.2.2 HOK.out, kF⟩
    | false =>
      rw [hr] at HS
      by_cases h3 : 3 ≤ R.1.st
      · have HTT : Hid (T = ({ x with m := R.1 }, [], 6)) := Lib.hid (by rw [HT.out, if_neg (by simp), hr, if_neg (by simp), if_pos h3])
        have H3 := Lib.hid h3
        clear hr h3
        go_enter Tryz.func30, Tryz.ntmps30
        go_wp2_with fail
        refine HW.out.mono ?_
        rintro e w2 ⟨rfl, hw⟩
        obtain rfl : w = w2 := hw.symm
        go_wp2_with fail
        refine HS.out.mono ?_
        rintro e w2 ⟨v, rfl, hX⟩
        have hV2 := HV.out.lined hX.2.1 hX.2.2 HOK.out
        obtain ⟨d0, -⟩ := hV2.cells
        have HST := Lib.hid (lstate hV2.line)
        have HX := Lib.hid hX
        have HV2 := Lib.hid hV2
        have h3 : 3 ≤ R.1.st := H3.out
        obtain ⟨sst, hst⟩ : ∃ sst, sst = R.1.st := ⟨_, rfl⟩
        change Hid (Calls _ _ _ _ fun e w' => e = .returned (.int .i64 R.1.st) ∧ w' = w2) at HST
        rw [← hst] at HST h3
        clear hX hV2 c0 hst
        go_wp2_with fail
        refine HST.out.mono ?_
        rintro e w3 ⟨rfl, hw⟩
        obtain rfl : w2 = w3 := hw.symm
        go_wp2_with fail
        go_ret2
        rw [HTT.out]
        exact ⟨_, rfl, OwnS.none_, HV2.out, HX.out.2.2.mono fun _ _ e => e.1⟩
      · have HTT : Hid (T = ({ x with m := R.1 }, [], 9)) := Lib.hid (by rw [HT.out, if_neg (by simp), hr, if_neg (by simp), if_neg h3])
        have H3 := Lib.hid (show R.1.st < 3 by omega)
        clear hr h3
        go_enter Tryz.func30, Tryz.ntmps30
        go_wp2_with fail
        refine HW.out.mono ?_
        rintro e w2 ⟨rfl, hw⟩
        obtain rfl : w = w2 := hw.symm
        go_wp2_with fail
        refine HS.out.mono ?_
        rintro e w2 ⟨v, rfl, hX⟩
        have hV2 := HV.out.lined hX.2.1 hX.2.2 HOK.out
        obtain ⟨d0, -⟩ := hV2.cells
        have HST := Lib.hid (lstate hV2.line)
        have HX := Lib.hid hX
        have HV2 := Lib.hid hV2
        have h3 : R.1.st < 3 := H3.out
        obtain ⟨sst, hst⟩ : ∃ sst, sst = R.1.st := ⟨_, rfl⟩
        change Hid (Calls _ _ _ _ fun e w' => e = .returned (.int .i64 R.1.st) ∧ w' = w2) at HST
        rw [← hst] at HST h3
        clear hX hV2 c0 hst
        go_wp2_with fail
        refine HST.out.mono ?_
        rintro e w3 ⟨rfl, hw⟩
        obtain rfl : w2 = w3 := hw.symm
        go_wp2_with fail
        go_ret2
        rw [HTT.out]
        exact ⟨_, rfl, OwnS.none_, HV2.out, HX.out.2.2.mono fun _ _ e => e.1⟩
  · have HTT : Hid (T = (x, [], c)) := Lib.hid (by rw [HT.out, if_pos h0])
    have hb : (c != 0) = true := by simpa using h0
    clear h0
    go_enter Tryz.func30, Tryz.ntmps30
    go_wp2_with fail
    refine HW.out.mono ?_
    rintro e w2 ⟨rfl, hw⟩
    obtain rfl : w = w2 := hw.symm
    go_wp2_with fail
    go_ret2
    rw [HTT.out]
    exact ⟨_, rfl, OwnS.none_, HV.out.same (Keeps.refl _ _) 1, Keeps.refl _ _⟩
/-- where the last lines of what is kept begin -/
def backC (A : List UInt8) (lines : Int) : Nat := (A.length - 32768) + backN (A.drop (A.length - 32768)) (A.length - (A.length - 32768)) lines.toNat
set_option maxRecDepth 100000 in
theorem creplay (h : ConsV w F tag xb st x lb sb pb g b jb) (lines : Int) (hA : x.past.length ≤ 2305843009213693952) (hL : lines ≤ 4611686018427387904) : Calls Tryz.prog 36 #[.pointer (some ⟨xb, 0, none⟩), .int .i64 lines] w fun e w' =>
    e = .returned (.tuple #[.int .i64 (backC x.past lines : Nat), .int .i64 x.past.length]) ∧ Keeps (fun _ => False) w w' := by
  have HP := Lib.hid (cpast h)
  have HB := Lib.hid (pback_yes w pb g b 32768 x.past lines h.past hA hL)
  have HC := Lib.hid (fun W (k : Keeps (fun _ => False) w W) => pcame_yes W pb g b 32768 x.past (h.past.keeps k (fun h => h) (fun h => h) (fun h => h)))
  obtain ⟨R, hR⟩ : ∃ R, R = backC x.past lines := ⟨_, rfl⟩
  rw [← hR]
  change Hid (Calls _ _ _ _ fun e w' => e = .returned (.int .i64 (backC x.past lines : Nat)) ∧ Keeps (fun _ => False) w w') at HB
  rw [← hR] at HB
  obtain ⟨A, hA2⟩ : ∃ A, A = x.past.length := ⟨_, rfl⟩
  rw [← hA2] at HC ⊢
  clear h hR hA2 hA hL
  go_enter Tryz.func36, Tryz.ntmps36
  go_wp2_with fail
  refine HP.out.mono ?_
  rintro e w2 ⟨rfl, hw⟩
  obtain rfl : w = w2 := hw.symm
  go_wp2_with fail
  refine HB.out.mono ?_
  rintro e w2 ⟨rfl, k2⟩
  have HK2 := Lib.hid k2
  clear k2
  go_wp2_with fail
  refine (Qt.k (HC.out _ HK2.out)).mono ?_
  rintro e w3 ⟨rfl, k3⟩
  have HK3 := Lib.hid k3
  clear k3
  go_wp2_with fail
  go_ret2
  exact ⟨rfl, HK2.out.trans HK3.out⟩
set_option maxRecDepth 100000 in
theorem csave (h : ConsV w F tag xb st x lb sb pb g b jb) (hS : StoF w0 w FT st most bad l n) (hap : Apart F FT) (hlo : ∀ i, F i → w0.heap.size ≤ i) (hn : n ≤ 999000) : Calls Tryz.prog 14 #[.pointer (some ⟨xb, 0, none⟩)] w fun e w' =>
    e = .returned (.bool (syncJ (baseOf x.c) ⟨bad, l, x.rest, x.lost⟩).2) ∧ ConsV w' F tag xb st { x with rest := (syncJ (baseOf x.c) ⟨bad, l, x.rest, x.lost⟩).1.rest, lost := (syncJ (baseOf x.c) ⟨bad, l, x.rest, x.lost⟩).1.lost } lb sb pb g b jb ∧
    StoF w0 w' (Ext FT w w') st most (syncJ (baseOf x.c) ⟨bad, l, x.rest, x.lost⟩).1.bad (syncJ (baseOf x.c) ⟨bad, l, x.rest, x.lost⟩).1.l (n + 19) ∧ Keeps (fun i => FT i ∨ i = jb) w w' := by
  have HV := Lib.hid h
  have HM := Lib.hid (cmade h)
  have HJ := Lib.hid (jsyncF (h.logF hS hlo) hn)
  have HAP := Lib.hid hap
  obtain ⟨c0, c1, c2, c3, c4⟩ := h.cells
  obtain ⟨R, hR⟩ : ∃ R, R = syncJ (baseOf x.c) ⟨bad, l, x.rest, x.lost⟩ := ⟨_, rfl⟩
  rw [← hR] at HJ ⊢
  clear h hS hap hlo hn hR
  go_enter Tryz.func14, Tryz.ntmps14
  go_wp2_with fail
  refine HM.out.mono ?_
  rintro e w2 ⟨rfl, hw⟩
  obtain rfl : w = w2 := hw.symm
  go_wp2_with fail
  refine HJ.out.mono ?_
  rintro e w2 ⟨rfl, hL2, k2⟩
  have HL := Lib.hid hL2
  have HK := Lib.hid k2
  clear hL2 k2
  go_wp2_with fail
  go_ret
  exact ⟨rfl, HV.out.logged HL.out.2.1 HK.out HAP.out, HL.out.1, HK.out⟩
end
end Go.Proofs.YtkmpdobojgiegaaGreatDoor
