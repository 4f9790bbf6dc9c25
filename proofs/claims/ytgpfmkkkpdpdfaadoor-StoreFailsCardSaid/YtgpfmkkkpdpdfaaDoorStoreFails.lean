/-
  StoreFails: a call that tells an error leaves all as it was.
-/
import Derived.Test.YtgpfmkkkpdpdfaaDoorDoAll11
namespace Go.Proofs.YtgpfmkkkpdpdfaaDoor
open Go.RowKit Go.Maps

/-- an act of which the store's first call fails leaves all files -/
theorem doP_fails (most : Int) (l : List SFile) (o : Op11) (hk : o.kind % 8 ≤ 4) : (doP most 1 l o).2 = l ∧ (namedP o.a = true → (doP most 1 l o).1 = 0) := by
  have hb : (beginC 1 o.a).1 ≠ 0 ∧ (namedP o.a = true → (beginC 1 o.a).2 = 0) := by
    unfold beginC
    by_cases h : namedP o.a = true
    · rw [if_pos h, if_pos (by omega)]; exact ⟨by simp, fun _ => rfl⟩
    · rw [if_neg h]; exact ⟨by simp, fun h' => absurd h' h⟩
  obtain ⟨h1, h2⟩ := hb
  unfold doP syncP renameP removeP appendP
  rw [if_pos h1, if_pos h1, if_pos h1, if_pos h1]
  by_cases k2 : o.kind % 8 = 2
  · rw [if_pos k2]; exact ⟨rfl, h2⟩
  rw [if_neg k2]
  by_cases k3 : o.kind % 8 = 3
  · rw [if_pos k3]; exact ⟨rfl, h2⟩
  rw [if_neg k3]
  by_cases k4 : o.kind % 8 = 4
  · rw [if_pos k4]; exact ⟨rfl, h2⟩
  rw [if_neg k4, if_neg (by omega), if_neg (by omega)]
  exact ⟨rfl, h2⟩

set_option maxRecDepth 100000 in
set_option maxHeartbeats 2000000 in
theorem storeFails_walk (w : World) (a : Option Addr) (n c : Nat) (l : List Op11) (o : Op11) (hl : SlAt opR11 6 w a n l ∧ ∀ x ∈ l, x.good w) (ho : o.good w) (he : Ety w) :
    Calls Tryd.prog 7 #[.slice a n c, opV11 o] w fun e w' => e = .returned (.bool true) ∧ Keeps (fun _ => False) w w' := by
  have HE := Lib.hid he
  have HW := Lib.hid (fun W (k : Keeps (fun _ => False) w W) => works11 W (ety_keeps he k (fun _ _ => id)))
  have HOPS := Lib.hid hl
  have HG := Lib.hid ho
  have HPL := Lib.hid (fun l => doP_fails 300 l o)
  clear he hl
  have hkk := ho.1
  clear ho
  obtain ⟨kk, oa, ob, os, on, ka, kn, kc, kp⟩ := o
  simp only at hkk HPL
  have HO := Lib.hid (Blk.new w 56 #[.int .u8 kk, .string oa, .string ob, .string os, .int .i64 on, .slice ka kn kc])
  unfold opV11
  simp only
  by_cases h1 : 40 < n
  · go_enter Tryd.func7, Tryd.ntmps7
    go_wp2_with fail
    refine (HW.out _ (by (repeat (first | (with_reducible assumption) | (with_reducible exact Keeps.refl _ _) | refine Keeps.drew ?_ | refine Keeps.drewN ?_ _ | refine Keeps.setCell ?_ (by simp) _ | refine Keeps.setRow ?_ (by simp) _ | refine Keeps.alloc ?_ _)))).mono ?_
    rintro e w' ⟨rfl, k⟩
    have HK := Lib.hid (Keeps.trans (a := w) (S := fun _ => False) (by (repeat (first | (with_reducible assumption) | (with_reducible exact Keeps.refl _ _) | refine Keeps.drew ?_ | refine Keeps.drewN ?_ _ | refine Keeps.setCell ?_ (by simp) _ | refine Keeps.setRow ?_ (by simp) _ | refine Keeps.alloc ?_ _))) k)
    clear k
    go_wp2_with fail
    go_ret
    exact ⟨rfl, HK.out⟩
  by_cases h2 : 100 < os.size
  · go_enter Tryd.func7, Tryd.ntmps7
    go_wp2_with fail
    refine (HW.out _ (by (repeat (first | (with_reducible assumption) | (with_reducible exact Keeps.refl _ _) | refine Keeps.drew ?_ | refine Keeps.drewN ?_ _ | refine Keeps.setCell ?_ (by simp) _ | refine Keeps.setRow ?_ (by simp) _ | refine Keeps.alloc ?_ _)))).mono ?_
    rintro e w' ⟨rfl, k⟩
    have HK := Lib.hid (Keeps.trans (a := w) (S := fun _ => False) (by (repeat (first | (with_reducible assumption) | (with_reducible exact Keeps.refl _ _) | refine Keeps.drew ?_ | refine Keeps.drewN ?_ _ | refine Keeps.setCell ?_ (by simp) _ | refine Keeps.setRow ?_ (by simp) _ | refine Keeps.alloc ?_ _))) k)
    clear k
    go_wp2_with fail
    go_ret
    exact ⟨rfl, HK.out⟩
  by_cases h3 : 100 < oa.size
  · go_enter Tryd.func7, Tryd.ntmps7
    go_wp2_with fail
    refine (HW.out _ (by (repeat (first | (with_reducible assumption) | (with_reducible exact Keeps.refl _ _) | refine Keeps.drew ?_ | refine Keeps.drewN ?_ _ | refine Keeps.setCell ?_ (by simp) _ | refine Keeps.setRow ?_ (by simp) _ | refine Keeps.alloc ?_ _)))).mono ?_
    rintro e w' ⟨rfl, k⟩
    have HK := Lib.hid (Keeps.trans (a := w) (S := fun _ => False) (by (repeat (first | (with_reducible assumption) | (with_reducible exact Keeps.refl _ _) | refine Keeps.drew ?_ | refine Keeps.drewN ?_ _ | refine Keeps.setCell ?_ (by simp) _ | refine Keeps.setRow ?_ (by simp) _ | refine Keeps.alloc ?_ _))) k)
    clear k
    go_wp2_with fail
    go_ret
    exact ⟨rfl, HK.out⟩
  by_cases h4 : 100 < ob.size
  · go_enter Tryd.func7, Tryd.ntmps7
    go_wp2_with fail
    refine (HW.out _ (by (repeat (first | (with_reducible assumption) | (with_reducible exact Keeps.refl _ _) | refine Keeps.drew ?_ | refine Keeps.drewN ?_ _ | refine Keeps.setCell ?_ (by simp) _ | refine Keeps.setRow ?_ (by simp) _ | refine Keeps.alloc ?_ _)))).mono ?_
    rintro e w' ⟨rfl, k⟩
    have HK := Lib.hid (Keeps.trans (a := w) (S := fun _ => False) (by (repeat (first | (with_reducible assumption) | (with_reducible exact Keeps.refl _ _) | refine Keeps.drew ?_ | refine Keeps.drewN ?_ _ | refine Keeps.setCell ?_ (by simp) _ | refine Keeps.setRow ?_ (by simp) _ | refine Keeps.alloc ?_ _))) k)
    clear k
    go_wp2_with fail
    go_ret
    exact ⟨rfl, HK.out⟩
  by_cases h5 : 4 < kk % 8
  · have t5 : decide ((4 : Int) < (kk : Int) % 8) = true := by rw [decide_eq_true_iff]; omega
    go_enter Tryd.func7, Tryd.ntmps7
    go_wp2_with fail
    refine (HW.out _ (by (repeat (first | (with_reducible assumption) | (with_reducible exact Keeps.refl _ _) | refine Keeps.drew ?_ | refine Keeps.drewN ?_ _ | refine Keeps.setCell ?_ (by simp) _ | refine Keeps.setRow ?_ (by simp) _ | refine Keeps.alloc ?_ _)))).mono ?_
    rintro e w' ⟨rfl, k⟩
    have HK := Lib.hid (Keeps.trans (a := w) (S := fun _ => False) (by (repeat (first | (with_reducible assumption) | (with_reducible exact Keeps.refl _ _) | refine Keeps.drew ?_ | refine Keeps.drewN ?_ _ | refine Keeps.setCell ?_ (by simp) _ | refine Keeps.setRow ?_ (by simp) _ | refine Keeps.alloc ?_ _))) k)
    clear k
    go_wp2_with fail
    go_ret
    exact ⟨rfl, HK.out⟩
  have t5 : decide ((4 : Int) < (kk : Int) % 8) = false := by rw [decide_eq_false_iff_not]; omega
  have hkn : kn ≤ maxLen := HG.out.2.2.2.2.2.1
  go_enter Tryd.func7, Tryd.ntmps7
  go_wp2_with fail
  have hk0 : Keeps (fun _ => False) w (w.alloc (.cells #[.int .u8 kk, .string oa, .string ob, .string os, .int .i64 on, .slice ka kn kc] 56)) := by (repeat (first | (with_reducible assumption) | (with_reducible exact Keeps.refl _ _) | refine Keeps.drew ?_ | refine Keeps.drewN ?_ _ | refine Keeps.setCell ?_ (by simp) _ | refine Keeps.setRow ?_ (by simp) _ | refine Keeps.alloc ?_ _))
  refine (snew_ok (w0 := w) HE.out hk0 (by decide) (by decide)).mono ?_
  rintro e w1 ⟨s, M, rfl, S1, k1⟩
  have hob := HO.out.keeps k1 id
  have HS1 := Lib.hid S1
  have HOB := Lib.hid hob
  have hz1 := hob.lt
  clear S1 k1 hk0 hob
  go_wp2_with fail
  have hp : Pairs w (w1.alloc (.cells #[.slice none 0 0, .int .i64 300, .int .i64 0] 29)) s M 300 w1.heap.size 0 :=
    ⟨0, [], _, HS1.out.same ((Keeps.refl _ _).alloc _), OwnS.none_, Blk.new _ _ _, Nat.le_of_lt hz1⟩
  have hob := HOB.out.alloc (.cells #[.slice none 0 0, .int .i64 300, .int .i64 0] 29)
  have HP := Lib.hid hp
  have HOB1 := Lib.hid hob
  obtain ⟨xb, hxb⟩ : ∃ xb, xb = w1.heap.size := ⟨_, rfl⟩
  rw [← hxb] at HP ⊢
  obtain ⟨B0, hB0⟩ : ∃ B0, B0 = w.heap.size := ⟨_, rfl⟩
  rw [← hB0] at HOB1 ⊢
  have HXB := Lib.hid hxb
  have HB0 := Lib.hid hB0
  clear hp hxb hz1 hB0 hob
  go_loopw [8] (fun u8 wr => ∃ i : Nat, u8 = .int .i64 i ∧ Hid (i ≤ n ∧ Pairs w wr s M 300 xb i ∧ Blk wr B0 56 #[.int .u8 kk, .string oa, .string ob, .string os, .int .i64 on, .slice ka kn kc])) (fun u8 _ => n - (intOf u8).toNat)
  case atStart => exact ⟨0, rfl, Lib.hid ⟨Nat.zero_le _, HP.out, HOB1.out⟩⟩
  case round =>
    obtain ⟨i, rfl, HI⟩ := hrel
    rename World => wr
    by_cases hi : i < n
    · obtain ⟨x, b, off, hx, hxm, rfl, hbl, hcc⟩ := opAt HOPS.out.1 hi
      obtain ⟨bad, L, v, hP⟩ := HI.out.2.1
      have hcw := hcc wr hP.sto.keeps
      obtain ⟨o0, o1, o2, o3, o4, o5⟩ := hcw
      have hgx := HOPS.out.2 x hxm
      have HPP := Lib.hid hP
      have HBO := Lib.hid HI.out.2.2
      have HXI := Lib.hid (show (Pairs w wr s M 300 xb (i + 1)) from ⟨bad, L, v, hP.mono_n (by omega)⟩)
      have hbw : b < wr.heap.size := Nat.lt_of_lt_of_le hbl hP.sto.keeps.size
      obtain ⟨a0, n0, c0, rfl⟩ := hP.slc
      obtain ⟨qk, qa, qb, qs, qn, qka, qkn, qkc, qkp⟩ := x
      simp only at o0 o1 o2 o3 o4 o5
      by_cases s1 : qs.size ≤ 100
      · by_cases s2 : qa.size ≤ 100
        · by_cases s3 : qb.size ≤ 100
          · by_cases s4 : qkn ≤ 20
            · by_cases s5 : qk % 8 < 7
              · have t6 : decide ((qk : Int) % 8 < 7) = true := by rw [decide_eq_true_iff]; omega
                have hdo := fun W (k : Keeps (fun _ => False) wr W) => do11_any (hP.sto.same k) (by omega) (hP.doc.keeps k) _ hgx ⟨s1, s2, s3, fun _ => s4⟩
                obtain ⟨x, hx⟩ : ∃ x, x = doP 300 bad (L.map SRep.f) ⟨qk, qa, qb, qs, qn, qka, qkn, qkc, qkp⟩ := ⟨_, rfl⟩
                rw [← hx] at hdo
                simp only [docS, opV11] at hdo
                have HDO := Lib.hid hdo
                obtain ⟨y0, y1, y2⟩ := hP.xat.cells3
                have hxl := hP.xat.lt
                clear hdo hx hxm hcc hgx hP HI
                go_wp2_with fail
                go_region_with ((go_at_call 34; go_must (refine (HDO.out _ (by (repeat (first | (with_reducible assumption) | (with_reducible exact Keeps.refl _ _) | refine Keeps.drew ?_ | refine Keeps.drewN ?_ _ | refine Keeps.setCell ?_ (by simp) _ | refine Keeps.setRow ?_ (by simp) _ | refine Keeps.alloc ?_ _)))).mono ?_; rintro e w3 ⟨a3, n3, c3, L3, rfl, hS3, hl3, hd3, k3⟩; have hkk : Keeps (fun i => w.heap.size ≤ i ∧ StT wr i) wr w3 := (by first | exact k3 | exact k3.from_drew); have Z := HPP.out.xat.other hkk (by decide) (by decide) (by decide); obtain ⟨⟨z0, z1, z2⟩, zf0, zf1, zf2⟩ := Z.all3; have HS3 := Lib.hid hS3; have HL3 := Lib.hid hl3; have HD3 := Lib.hid hd3; have HK3 := Lib.hid hkk; have HZ := Lib.hid Z; clear hS3 hl3 hd3 k3 hkk Z)))
                all_goals
                  go_wp2_with fail
                  go_roundw
                  case rel => exact ⟨i + 1, by go_num, Lib.hid ⟨by omega, ⟨x.1, L3, _, HPP.out.fin HS3.out HL3.out HD3.out HK3.out ((((Keeps.refl (fun i => i = xb) w3).setCell (fun _ => rfl) _).setCell (fun _ => rfl) _).setCell (fun _ => rfl) _) (HZ.out.set3 _ _ _)⟩, Blk.keeps (HBO.out.other HK3.out (by decide) (by decide) (by decide)) ((((Keeps.refl (fun i => i = xb) w3).setCell (fun _ => rfl) _).setCell (fun _ => rfl) _).setCell (fun _ => rfl) _) (fun e => Blk.ne_ HBO.out HPP.out.xat (by decide) e)⟩⟩
                  case measure => simp [intOf]; omega
              · have t6 : decide ((qk : Int) % 8 < 7) = false := by rw [decide_eq_false_iff_not]; omega
                clear hx hxm hcc hgx hP HI
                go_wp2_with fail
                go_roundw
                case rel => exact ⟨i + 1, by go_num, Lib.hid ⟨by omega, HXI.out, HBO.out⟩⟩
                case measure => simp [intOf]; omega
            · clear hx hxm hcc hgx hP HI
              go_wp2_with fail
              go_roundw
              case rel => exact ⟨i + 1, by go_num, Lib.hid ⟨by omega, HXI.out, HBO.out⟩⟩
              case measure => simp [intOf]; omega
          · clear hx hxm hcc hgx hP HI
            go_wp2_with fail
            go_roundw
            case rel => exact ⟨i + 1, by go_num, Lib.hid ⟨by omega, HXI.out, HBO.out⟩⟩
            case measure => simp [intOf]; omega
        · clear hx hxm hcc hgx hP HI
          go_wp2_with fail
          go_roundw
          case rel => exact ⟨i + 1, by go_num, Lib.hid ⟨by omega, HXI.out, HBO.out⟩⟩
          case measure => simp [intOf]; omega
      · clear hx hxm hcc hgx hP HI
        go_wp2_with fail
        go_roundw
        case rel => exact ⟨i + 1, by go_num, Lib.hid ⟨by omega, HXI.out, HBO.out⟩⟩
        case measure => simp [intOf]; omega
    · obtain ⟨bad, L, v, hP⟩ := HI.out.2.1
      obtain rfl : i = n := by have := HI.out.1; omega
      obtain ⟨va, vn, vc, rfl⟩ := hP.slc
      have HP1 := Lib.hid hP
      have HB1 := Lib.hid HI.out.2.2
      clear hP HI
      go_wp2_with fail
      refine (sfail HP1.out.sto 1 (by decide)).mono ?_
      rintro e w4 ⟨L4, rfl, hS4, hl4, k4⟩
      have hS4 : Sto w w4 s M 300 1 L4 i := hS4
      have hx4 := HP1.out.xat.other k4 (by decide) (by decide) (by decide)
      have ho4 := HB1.out.other k4 (by decide) (by decide) (by decide)
      have hd4 := Sto.doc HP1.out.doc k4
      have HS4 := Lib.hid hS4
      have HL4 := Lib.hid hl4
      have HX4 := Lib.hid hx4
      have HO4 := Lib.hid ho4
      have HD4 := Lib.hid hd4
      obtain ⟨⟨x0, x1, x2⟩, xf0, xf1, xf2⟩ := hx4.all3
      obtain ⟨o0, o1, o2, o3, o4, o5⟩ := ho4.cells6
      have hne : B0 ≠ xb := Blk.ne_ ho4 hx4 (by decide)
      clear hS4 hl4 k4 hx4 ho4 hd4
      go_wp2_with fail
      have kx : Keeps (fun i => i = xb) w4 (w4.setCell ⟨xb, 2, none⟩ (.int .i64 1)) := (Keeps.refl (fun i => i = xb) w4).setCell (fun _ => rfl) _
      have hx5 := HX4.out.set_ 2 (.int .i64 1)
      have ho5 := HO4.out.keeps kx hne
      have hd5 : DocL (w4.setCell ⟨xb, 2, none⟩ (.int .i64 1)) _ _ := OwnS.keeps HD4.out kx (fun i _ _ ⟨cs, hb⟩ e => Blk.ne_ hb HX4.out (by decide) e)
      have hS5 := HS4.out.beside kx (fun i e => by subst e; exact ⟨HP1.out.xlo, _, _, HX4.out, by decide, by decide, by decide⟩)
      obtain ⟨w5, hw5⟩ : ∃ w5, w5 = w4.setCell ⟨xb, 2, none⟩ (.int .i64 1) := ⟨_, rfl⟩
      rw [← hw5] at hx5 ho5 hd5 hS5 ⊢
      rw [← HL4.out] at hd5
      have hdo := do11_any hS5 (by omega) hd5 _ HG.out ⟨by simp only; omega, by simp only; omega, by simp only; omega, fun h => by simp only at h; omega⟩
      obtain ⟨x, hx⟩ : ∃ x, x = doP 300 1 (L4.map SRep.f) ⟨kk, oa, ob, os, on, ka, kn, kc, kp⟩ := ⟨_, rfl⟩
      have hpl := HPL.out (L4.map SRep.f)
      rw [← hx] at hdo hpl
      simp only [docS, opV11] at hdo
      have HDO := Lib.hid hdo
      have HPX := Lib.hid hpl
      have HX5 := Lib.hid hx5
      have HO5 := Lib.hid ho5
      have HD5 := Lib.hid hd5
      have HS5 := Lib.hid hS5
      clear x0 x1 x2 xf0 xf1 xf2 o0 o1 o2 o3 o4 o5
      obtain ⟨x0, x1, x2⟩ := hx5.cells3
      obtain ⟨o0, o1, o2, o3, o4, o5⟩ := ho5.cells6
      clear hdo hpl hx kx hx5 ho5 hd5 hS5 hw5
      go_wp2_with fail
      refine HDO.out.mono ?_
      rintro e w6 ⟨a6, n6, c6, L6, rfl, hS6, hl6, hd6, k6⟩
      have hx6 := HX5.out.other k6 (by decide) (by decide) (by decide)
      have ho6 := HO5.out.other k6 (by decide) (by decide) (by decide)
      have kq : Keeps (fun _ => False) w6 (w6.alloc (.cells #[.slice a6 n6 c6, .int .i64 300, .int .i64 x.1] 29)) := by (repeat (first | (with_reducible assumption) | (with_reducible exact Keeps.refl _ _) | refine Keeps.drew ?_ | refine Keeps.drewN ?_ _ | refine Keeps.setCell ?_ (by simp) _ | refine Keeps.setRow ?_ (by simp) _ | refine Keeps.alloc ?_ _))
      have hd6o := (Sto.doc HD5.out k6).keeps kq
      have hx6 := hx6.keeps kq id
      have ho6 := ho6.keeps kq id
      have hd6 := hd6.keeps kq
      have hS6 := hS6.same kq
      have hy6 := Blk.new w6 29 #[.slice a6 n6 c6, .int .i64 300, .int .i64 x.1]
      obtain ⟨w7, hw7⟩ : ∃ w7, w7 = w6.alloc (.cells #[.slice a6 n6 c6, .int .i64 300, .int .i64 x.1] 29) := ⟨_, rfl⟩
      have HW7 := Lib.hid hw7
      clear o0 o1 o2 o3 o4 o5 x0 x1 x2
      obtain ⟨o0', o1', o2', o3', o4', o5'⟩ := ho6.cells6
      go_wp2_with fail
      rw [← hw7] at hx6 ho6 hd6 hd6o hS6 hy6 o0' o1' o2' o3' o4' o5' ⊢
      obtain ⟨B9, hB9⟩ : ∃ B9, B9 = w6.heap.size := ⟨_, rfl⟩
      rw [← hB9] at hy6 ⊢
      have hll : L4.map SRep.f = L6.map SRep.f := by rw [hl6, (HPX.out (by omega)).1]
      rw [← hl6] at hd6
      rw [hll] at hd6o
      have HS6 := Lib.hid hS6
      have HD6 := Lib.hid hd6
      have HD6o := Lib.hid hd6o
      have HX6 := Lib.hid hx6
      have HO6 := Lib.hid ho6
      have HY6 := Lib.hid hy6
      have HB9 := Lib.hid hB9
      obtain ⟨x0, x1, x2⟩ := hx6.cells3
      obtain ⟨y0, y1, y2⟩ := hy6.cells3
      clear hll hS6 hd6 hd6o hx6 ho6 hy6 hB9 hw7 hl6 k6 kq
      have hsm := same11_any HS6.out HD6o.out 300 1
      simp only [docS] at hsm
      have HSM := Lib.hid hsm
      clear hsm
      by_cases hnm : namedP oa = true
      · refine (rnamed_any _ oa (by omega)).mono ?_
        rw [hnm]
        rintro e w8 ⟨rfl, hw⟩
        obtain rfl : w7 = w8 := hw.symm
        clear hnm
        go_wp2_with fail
        refine HSM.out.mono ?_
        rintro e w8 ⟨rfl, k8⟩
        have hdo := do11_any (HS6.out.same k8) (by omega) (HD6.out.keeps k8) _ HG.out ⟨by simp only; omega, by simp only; omega, by simp only; omega, fun h => by simp only at h; omega⟩
        obtain ⟨x9, hx9⟩ : ∃ x9, x9 = doP 300 x.1 (L6.map SRep.f) ⟨kk, oa, ob, os, on, ka, kn, kc, kp⟩ := ⟨_, rfl⟩
        rw [← hx9] at hdo
        simp only [docS, opV11] at hdo
        have HDO9 := Lib.hid hdo
        clear x0 x1 x2 y0 y1 y2 o0' o1' o2' o3' o4' o5'
        obtain ⟨y0, y1, y2⟩ := (HY6.out.keeps k8 id).cells3
        obtain ⟨o0, o1, o2, o3, o4, o5⟩ := (HO6.out.keeps k8 id).cells6
        clear hdo hx9 k8
        go_wp2_with fail
        refine HDO9.out.mono ?_
        rintro e w9 ⟨a9, n9, c9, L9, rfl, hS9, hl9, hd9, k9⟩
        have kq : Keeps (fun _ => False) w9 (w9.alloc (.cells #[.slice a9 n9 c9, .int .i64 300, .int .i64 x9.1] 29)) := by (repeat (first | (with_reducible assumption) | (with_reducible exact Keeps.refl _ _) | refine Keeps.drew ?_ | refine Keeps.drewN ?_ _ | refine Keeps.setCell ?_ (by simp) _ | refine Keeps.setRow ?_ (by simp) _ | refine Keeps.alloc ?_ _))
        rw [← hl9] at hd9
        have HS9 := Lib.hid (hS9.same kq)
        have hsm := same11_any HS9.out (hd9.keeps kq) 300 x9.1
        simp only [docS] at hsm
        have HSM9 := Lib.hid hsm
        clear hsm hS9 hl9 hd9 k9 kq
        go_wp2_with fail
        refine HSM9.out.mono ?_
        rintro e w10 ⟨rfl, k10⟩
        have HK10 := Lib.hid (HS9.out.keeps.trans k10)
        clear k10
        go_wp2_with fail
        refine (HW.out _ HK10.out).mono ?_
        rintro e w' ⟨rfl, k⟩
        have HK := Lib.hid (HK10.out.trans k)
        clear k
        go_wp2_with fail
        go_ret
        exact ⟨rfl, HK.out⟩
      · have hnm : namedP oa = false := by simpa using hnm
        refine (rnamed_any _ oa (by omega)).mono ?_
        rw [hnm]
        rintro e w8 ⟨rfl, hw⟩
        obtain rfl : w7 = w8 := hw.symm
        clear hnm
        go_wp2_with fail
        refine HSM.out.mono ?_
        rintro e w8 ⟨rfl, k8⟩
        have HK8 := Lib.hid (HS6.out.keeps.trans k8)
        clear k8
        go_wp2_with fail
        refine (HW.out _ HK8.out).mono ?_
        rintro e w' ⟨rfl, k⟩
        have HK := Lib.hid (HK8.out.trans k)
        clear k
        go_wp2_with fail
        go_ret
        exact ⟨rfl, HK.out⟩
end Go.Proofs.YtgpfmkkkpdpdfaaDoor
