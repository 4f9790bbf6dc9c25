/-
  tree.Print: an argument, a statement's head.
-/
import Derived.Test.YtfpajgmdejlaeaaGreatDoorQGround3
import Derived.Test.YtfpajgmdejlaeaaGreatDoorQBldK
namespace Go.Proofs.YtfpajgmdejlaeaaGreatDoor
open Go.RowKit

/-- an argument as text, and whether it may be -/
def argPr (s : List UInt8) : List UInt8 × Bool := if wordyP s then (s, true) else ((putP_lexm 2 s).1, (putP_lexm 2 s).2 == 0)
/-- a statement's key and arguments as text, and whether they may be -/
def headPr (k : ByteArray) (l : List ByteArray) : List UInt8 × Bool := (Lib.join (k.data.toList :: l.map fun a => (argPr a.data.toList).1) [32], wordyP k.data.toList && decide (l.length ≤ 16) && l.all fun a => (argPr a.data.toList).2)
set_option maxRecDepth 100000 in
theorem targ_any (w : World) (s : ByteArray) (hs : s.size ≤ 1073741824) :
    Calls Tryz.prog 135 #[.string s] w fun e w' => e = .returned (.tuple #[.string (str (argPr s.data.toList).1), .bool (argPr s.data.toList).2]) ∧ Keeps (fun _ => False) w w' := by
  have HW := Lib.hid (wordy_any w s (by omega))
  have HP := Lib.hid (fun W => lput_any W 2 0 s hs)
  by_cases hw : wordyP s.data.toList = true
  · have hv : Hid (argPr s.data.toList = (s.data.toList, true)) := Lib.hid (by unfold argPr; rw [if_pos hw])
    rw [hw] at HW
    clear hw HP
    go_enter Tryz.func135, Tryz.ntmps135
    go_wp2_with fail
    refine HW.out.mono ?_
    rintro e w2 ⟨rfl, k2⟩
    go_wp2_with fail
    go_ret2
    exact ⟨by rw [hv.out, str_of]; rfl, k2⟩
  · rw [Bool.not_eq_true] at hw
    have hv : Hid (argPr s.data.toList = ((putP_lexm 2 s.data.toList).1, (putP_lexm 2 s.data.toList).2 == 0)) := Lib.hid (by unfold argPr; rw [hw]; rfl)
    obtain ⟨tx, cd, hq⟩ : ∃ tx cd, putP_lexm 2 s.data.toList = (tx, cd) := ⟨_, _, rfl⟩
    have hpv : putV 2 s.data.toList = .tuple #[.string (str tx), .int .i64 cd] := by unfold putV; rw [hq]
    rw [hw] at HW
    simp only [hpv] at HP
    simp only [hq] at hv
    clear hw hq hpv
    go_enter Tryz.func135, Tryz.ntmps135
    go_wp2_with fail
    refine HW.out.mono ?_
    rintro e w2 ⟨rfl, k2⟩
    have HK2 := Lib.hid k2
    clear k2
    go_wp2_with fail
    refine (HP.out _).mono ?_
    rintro e w3 ⟨rfl, k3⟩
    have HK3 := Lib.hid (HK2.out.trans k3)
    clear k3
    go_wp2_with fail
    go_ret2
    exact ⟨by rw [hv.out]; rfl, HK3.out⟩

/-- a head's texts, those of the first i arguments -/
def headL (k : ByteArray) (l : List ByteArray) : List ByteArray := k :: l.map fun a => str (argPr a.data.toList).1
theorem headL_join (k : ByteArray) (l : List ByteArray) : (Lib.join ((headL k l).map (·.data.toList)) [32]) = (headPr k l).1 := by
  unfold headL headPr
  simp only [List.map_cons, List.map_map]
  congr 2
set_option maxRecDepth 100000 in
set_option maxHeartbeats 1000000 in
theorem thead_any (w : World) (S : Nat → Prop) (x : Nd) (r : NdV) (as_ : List ByteArray) (hM : NdM w S x r) (ha : SlAt strR 1 w r.aa r.an as_) (hn : r.an ≤ 16384) (hsz : r.key.size ≤ 1073741824 ∧ ∀ s ∈ as_, s.size ≤ 1073741824) (hJ : (headPr r.key as_).1.length ≤ 140737488355328) :
    Calls Tryz.prog 96 #[.agg (ndR r).toArray] w fun e w' => e = .returned (.tuple #[.string (str (headPr r.key as_).1), .bool (headPr r.key as_).2]) ∧ Keeps (fun _ => False) w w' := by
  obtain ⟨rk, ra, rn, rc, rb, rla, rln, rlc, rli⟩ := r
  simp only at ha hn hsz hJ
  simp only [ndR]
  have hal := ha.1
  obtain ⟨wa, hwa⟩ : ∃ wa, wa = w.alloc (.cells #[.string rk, .slice ra rn rc, .bool rb, .slice rla rln rlc, .int .i64 rli] 60) := ⟨_, rfl⟩
  have hka : Keeps (fun _ => False) w wa := by rw [hwa]; exact (Keeps.refl _ _).alloc _
  have hA : Blk wa w.heap.size 60 #[.string rk, .slice ra rn rc, .bool rb, .slice rla rln rlc, .int .i64 rli] := by rw [hwa]; exact Blk.new _ _ _
  obtain ⟨wb, hwb⟩ : ∃ wb, wb = wa.alloc (.cells #[.string rk] 9) := ⟨_, rfl⟩
  have hkb : Keeps (fun _ => False) wa wb := by rw [hwb]; exact (Keeps.refl _ _).alloc _
  have hO : OwnL wb wa.heap.size 9 (.slice (some ⟨wa.heap.size, 0, none⟩) 1 1) [.string rk] := by rw [hwb]; exact OwnL.of1 _ _ _
  have HWA := Lib.hid hwa
  have HWB := Lib.hid hwb
  have HKA := Lib.hid hka
  have HKB := Lib.hid (hka.trans hkb)
  have HA := Lib.hid (hA.keeps hkb id)
  have HO := Lib.hid hO
  have HW := Lib.hid (fun W => wordy_any W rk (by omega))
  have HAR := Lib.hid ha
  have HSZ := Lib.hid hsz.2
  have HJ := Lib.hid hJ
  have HAL := Lib.hid hal
  have hsa := hka.size
  have hwsz : Hid (wa.heap.size = w.heap.size + 1) := Lib.hid (by rw [hwa]; simp)
  obtain ⟨⟨x0, x1, x2, x3, x4⟩, -⟩ := (hA.keeps hkb id).all5
  clear hwa hka hA hwb hkb hO ha hsz hJ hal hM
  go_enter Tryz.func96, Tryz.ntmps96
  go_wp2_with fail
  rw [← HWA.out]
  have hws := hwsz.out
  go_upto_region 1 with (fail)
  rw [← HWB.out]
  refine (HW.out _).mono ?_
  rintro e w2 ⟨rfl, k2⟩
  have HK2 := Lib.hid (HKB.out.trans k2)
  have hA := HA.out.keeps k2 id
  obtain ⟨⟨y0, y1, y2, y3, y4⟩, -⟩ := hA.all5
  have HO2 := Lib.hid (HO.out.keeps k2 (fun _ _ _ => id))
  obtain ⟨okf, hokf⟩ : ∃ okf : Nat → Bool, okf = fun i => wordyP rk.data.toList && decide (as_.length ≤ 16) && (as_.take i).all fun a => (argPr a.data.toList).2 := ⟨_, rfl⟩
  have HOK := Lib.hid (fun (i : Nat) => congrFun hokf i)
  have HOK0 : Hid (∀ wd, wordyP rk.data.toList = wd → okf 0 = (wd && decide (rn ≤ 16))) := Lib.hid (fun wd h => by rw [hokf, h, HAL.out]; simp)
  obtain ⟨wd, hwd⟩ : ∃ wd, wordyP rk.data.toList = wd := ⟨_, rfl⟩
  have HWD := Lib.hid (HOK0.out wd hwd)
  rw [hwd]
  have hs2 := k2.size
  clear k2 hA hokf hwd x0 x1 x2 x3 x4
  cases wd
  all_goals
    go_wp2_with fail
    go_loopw [4, 5, 25] (fun u4 u5 u25 wr => ∃ (i : Nat), i ≤ rn ∧ u25 = .int .i64 i ∧ u5 = .bool (okf i) ∧ Hid (OwnL wr wa.heap.size 9 u4 ((headL rk (as_.take i)).map Value.string)) ∧ Keeps (fun _ => False) w wr) (fun _ _ u25 _ => rn - (intOf u25).toNat)
    case atStart => exact ⟨0, Nat.zero_le _, rfl, by rw [HWD.out]; first | rfl | (congr 1; simp <;> omega), Lib.hid (by have h := HO2.out; rw [← hwsz.out]; exact h), HK2.out⟩
    case round =>
      obtain ⟨i, hi, rfl, rfl, HOw, hK⟩ := hrel
      have HK := Lib.hid hK
      have hln : (headL rk (as_.take i)).length = i + 1 := by unfold headL; rw [List.length_cons, List.length_map, List.length_take, HAL.out]; omega
      have hsl := HOw.out.sl'
      rw [List.length_map, hln] at hsl
      obtain ⟨av, cv, rfl⟩ := hsl
      have HLN := Lib.hid hln
      have hszr := hK.size
      clear hK hln
      by_cases hlt : i < rn
      · obtain ⟨s, hs⟩ : ∃ s, as_[i]? = some s := ⟨_, List.getElem?_eq_getElem (by rw [HAL.out]; exact hlt)⟩
        obtain ⟨b, off, rfl, hb, hc⟩ := HAR.out.2 (by omega)
        have z0 := (World.cell?_of_block (w := w) (HK.out.block b hb id)).trans (SlAt.str hc i s hs)
        have hss := HSZ.out s (List.mem_of_getElem? hs)
        have HARG := Lib.hid (fun W => targ_any W s hss)
        have HSN : Hid (as_.take (i + 1) = as_.take i ++ [s]) := Lib.hid (by rw [List.take_add_one, hs]; rfl)
        obtain ⟨tx, fine, hap⟩ : ∃ tx fine, argPr s.data.toList = (tx, fine) := ⟨_, _, rfl⟩
        simp only [hap] at HARG
        have HNX : Hid (headL rk (as_.take (i + 1)) = headL rk (as_.take i) ++ [str tx]) := Lib.hid (by rw [HSN.out]; unfold headL; rw [List.map_append, List.cons_append]; simp only [List.map_cons, List.map_nil, hap])
        have HOKN : Hid (okf (i + 1) = (okf i && fine)) := Lib.hid (by rw [HOK.out, HOK.out, HSN.out, List.all_append]; simp only [List.all_cons, List.all_nil, hap, Bool.and_true, Bool.and_assoc])
        clear hs hc hap
        go_wp2_with fail
        refine (HARG.out _).mono ?_
        rintro e w3 ⟨rfl, k3⟩
        have HK3 := Lib.hid (HK.out.trans k3)
        have HO3 := Lib.hid (HOw.out.keeps k3 (fun _ _ _ => id))
        have hs3 := k3.size
        clear k3
        go_wp2_with (with_reducible show wpList _ _ _ (⟨some 37, _, _, _, _, _⟩ :: _) _ _; go_must (refine wpList_append_onet rfl (.tmp 34) (.tmp 36) 58 rfl wa.heap.size 9 (.string ⟨#[]⟩) 16 Tryz.underlying58 (by kernel_rfl) rfl (by omega) (.slice av (i + 1) cv) ((headL rk (as_.take i)).map Value.string) rfl (OwnL.keeps (S := fun _ => False) HO3.out ((Keeps.refl _ _).alloc _) (fun _ _ _ => id)) ⟨w3.heap.size, 0, none⟩ 1 (.string (str tx)) rfl (by go_simp) rfl (by rw [List.length_map, HLN.out]; omega) (by simp; omega) ?_; intro v7 w7 O7 k7; have HO7 := Lib.hid O7; have HK7 := Lib.hid k7; clear O7 k7))
        all_goals
          go_roundw
          case rel => exact ⟨i + 1, by omega, by go_num, by rw [HOKN.out]; cases hoi : okf i <;> first | rfl | exact absurd hoi (by assumption) | exact absurd ‹okf i = true› (by simp [hoi]), Lib.hid (by have h := HO7.out; rw [HNX.out, List.map_append]; exact h), (HK3.out.alloc _).and_ HK7.out (fun i hi e => by have := e.1; omega)⟩
          case measure => simp [intOf] <;> omega
      · have hie : i = rn := by omega
        subst hie
        have hown := HOw.out
        rw [List.take_of_length_le (by rw [HAL.out]; exact Nat.le_refl _)] at hown
        have HLN2 : Hid ((headL rk as_).length = i + 1) := Lib.hid (by unfold headL; rw [List.length_cons, List.length_map, HAL.out])
        obtain ⟨a2, c2, hv, h1, h2, h3, h4⟩ := hown.shape
        rw [List.length_map, HLN2.out] at hv h1 h3
        injection hv with e1 _ e3
        subst e1 e3
        obtain ⟨g, rfl, hg1, hg2⟩ := h3 (by omega)
        have hcs : ∀ (j : Nat) s, (headL rk as_)[j]? = some s → wr.cell? ⟨g, 0 + j, none⟩ = some (.string s) := fun j s hj => by
          rw [Nat.zero_add]; exact (h4 g rfl j (.string s) (by rw [List.getElem?_map, hj]; rfl)).1
        have hjn := Tryz.strings_Join g 0 cv (headL rk as_) ⟨#[32]⟩ wr hcs hg2 (by rw [HLN2.out]; omega) (by rw [HLN2.out]; omega) (by show (Lib.join ((headL rk as_).map (·.data.toList)) [32]).length ≤ _; rw [headL_join]; exact HJ.out)
        have hjn2 : (⟨(Lib.join ((headL rk as_).map (·.data.toList)) (⟨#[32]⟩ : ByteArray).data.toList).toArray⟩ : ByteArray) = str (headPr rk as_).1 := by
          show str (Lib.join ((headL rk as_).map (·.data.toList)) [32]) = _
          rw [headL_join]
        rw [hjn2, HLN2.out] at hjn
        have HJN := Lib.hid hjn
        have HOKE : Hid (okf i = (headPr rk as_).2) := Lib.hid (by rw [HOK.out, List.take_of_length_le (by rw [HAL.out]; exact Nat.le_refl _)]; rfl)
        clear hown h4 hcs hjn hjn2 h1 h2 h3
        go_wp2_with fail
        refine HJN.out.mono ?_
        rintro e w3 ⟨rfl, k3⟩
        go_wp2_with fail
        go_ret2
        exact ⟨by rw [← HOKE.out]; rfl, HK.out.trans (Keeps.of_below k3)⟩
end Go.Proofs.YtfpajgmdejlaeaaGreatDoor
