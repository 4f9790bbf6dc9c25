/-
  StoreSure: what is sure stays, behind a crash.
-/
import Derived.Test.YtgpfmkkkpdpdfaaDoorDoAll11
namespace Go.Proofs.YtgpfmkkkpdpdfaaDoor
open Go.RowKit Go.Maps

set_option maxRecDepth 100000 in
set_option maxHeartbeats 2000000 in
theorem storeSure_walk (w : World) (a : Option Addr) (n c : Nat) (l : List Op11) (a2 : Option Addr) (n2 c2 : Nat) (keep : List Int) (hl : SlAt opR11 6 w a n l ∧ ∀ x ∈ l, x.good w) (hk : SlAt intR 1 w a2 n2 keep ∧ ∀ k ∈ keep, IntB k) (he : Ety w) :
    Calls Tryd.prog 9 #[.slice a n c, .slice a2 n2 c2] w fun e w' => e = .returned (.bool true) ∧ Keeps (fun _ => False) w w' := by
  have HE := Lib.hid he
  have HW := Lib.hid (fun W (k : Keeps (fun _ => False) w W) => works11 W (ety_keeps he k (fun _ _ => id)))
  have HOPS := Lib.hid hl
  have HKEEP := Lib.hid hk
  clear he hl hk
  by_cases h40 : 40 < n
  · go_enter Tryd.func9, Tryd.ntmps9
    go_wp2_with fail
    refine (HW.out _ (Keeps.refl _ _)).mono ?_
    rintro e w' ⟨rfl, k⟩
    have HK := Lib.hid k
    clear k
    go_wp2_with fail
    go_ret
    exact ⟨rfl, HK.out⟩
  by_cases h20 : 20 < n2
  · go_enter Tryd.func9, Tryd.ntmps9
    go_wp2_with fail
    refine (HW.out _ (Keeps.refl _ _)).mono ?_
    rintro e w' ⟨rfl, k⟩
    have HK := Lib.hid k
    clear k
    go_wp2_with fail
    go_ret
    exact ⟨rfl, HK.out⟩
  go_enter Tryd.func9, Tryd.ntmps9
  go_wp2_with fail
  refine (snew_ok HE.out (Keeps.refl _ _) (by decide) (by decide)).mono ?_
  rintro e w1 ⟨s, M, rfl, S1, k1⟩
  have HS1 := Lib.hid S1
  have HK1 := Lib.hid k1
  have hz1 := k1.size
  clear S1 k1
  go_wp2_with fail
  have hp : Pairs w (w1.alloc (.cells #[.slice none 0 0, .int .i64 2000, .int .i64 0] 29)) s M 2000 w1.heap.size 0 :=
    ⟨0, [], _, HS1.out.same ((Keeps.refl _ _).alloc _), OwnS.none_, Blk.new _ _ _, hz1⟩
  have HP := Lib.hid hp
  obtain ⟨xb, hxb⟩ : ∃ xb, xb = w1.heap.size := ⟨_, rfl⟩
  rw [← hxb] at HP ⊢
  have HXB := Lib.hid hxb
  clear hp hxb hz1
  go_loopw [8] (fun u8 wr => ∃ i : Nat, u8 = .int .i64 i ∧ Hid (i ≤ n ∧ Pairs w wr s M 2000 xb i)) (fun u8 _ => n - (intOf u8).toNat)
  case atStart => exact ⟨0, rfl, Lib.hid ⟨Nat.zero_le _, HP.out⟩⟩
  case round =>
    obtain ⟨i, rfl, HI⟩ := hrel
    rename World => wr
    by_cases hi : i < n
    · obtain ⟨x, b, off, hx, hxm, rfl, hbl, hcc⟩ := opAt HOPS.out.1 hi
      obtain ⟨bad, L, v, hP⟩ := HI.out.2
      have hcw := hcc wr hP.sto.keeps
      obtain ⟨o0, o1, o2, o3, o4, o5⟩ := hcw
      have hgx := HOPS.out.2 x hxm
      have HG := Lib.hid hgx
      have HPP := Lib.hid hP
      have HXI := Lib.hid (show (Pairs w wr s M 2000 xb (i + 1)) from ⟨bad, L, v, hP.mono_n (by omega)⟩)
      have hbw : b < wr.heap.size := Nat.lt_of_lt_of_le hbl hP.sto.keeps.size
      obtain ⟨a0, n0, c0, rfl⟩ := hP.slc
      obtain ⟨kk, oa, ob, os, on, ka, kn, kc, kp⟩ := x
      simp only at o0 o1 o2 o3 o4 o5
      by_cases s1 : os.size ≤ 100
      · by_cases s2 : oa.size ≤ 100
        · by_cases s3 : ob.size ≤ 100
          · by_cases s4 : kn ≤ 20
            · have hdo := fun W (k : Keeps (fun _ => False) wr W) => do11_any (hP.sto.same k) (by omega) (hP.doc.keeps k) _ hgx ⟨s1, s2, s3, fun _ => s4⟩
              obtain ⟨x, hx⟩ : ∃ x, x = doP 2000 bad (L.map SRep.f) ⟨kk, oa, ob, os, on, ka, kn, kc, kp⟩ := ⟨_, rfl⟩
              rw [← hx] at hdo
              simp only [docS, opV11] at hdo
              have HDO := Lib.hid hdo
              obtain ⟨y0, y1, y2⟩ := hP.xat.cells3
              have hxl := hP.xat.lt
              clear hdo hx hxm hcc hgx hP HI
              go_wp2_with fail
              go_region_with ((go_at_call 34; go_must (refine (HDO.out _ (by (repeat (first | (with_reducible assumption) | (with_reducible exact Keeps.refl _ _) | refine Keeps.drew ?_ | refine Keeps.drewN ?_ _ | refine Keeps.setCell ?_ (by simp) _ | refine Keeps.setRow ?_ (by simp) _ | refine Keeps.alloc ?_ _)))).mono ?_; rintro e w3 ⟨a3, n3, c3, L3, rfl, hS3, hl3, hd3, k3⟩; have hkk : Keeps (fun i => w.heap.size ≤ i ∧ StT wr i) wr w3 := (by first | exact k3 | exact k3.from_drew); have Z := HPP.out.xat.other hkk (by decide) (by decide) (by decide); obtain ⟨⟨z0, z1, z2⟩, zf0, zf1, zf2⟩ := Z.all3; have HS3 := Lib.hid hS3; have HL3 := Lib.hid hl3; have HD3 := Lib.hid hd3; have HK3 := Lib.hid hkk; have HZ := Lib.hid Z; clear hS3 hl3 hd3 k3 hkk Z)))
              all_goals
                go_wp2_with fail
                go_roundw
                case rel => exact ⟨i + 1, by go_num, Lib.hid ⟨by omega, x.1, L3, _, HPP.out.fin HS3.out HL3.out HD3.out HK3.out ((((Keeps.refl (fun i => i = xb) w3).setCell (fun _ => rfl) _).setCell (fun _ => rfl) _).setCell (fun _ => rfl) _) (HZ.out.set3 _ _ _)⟩⟩
                case measure => simp [intOf]; omega
            · clear hx hxm hcc hgx hP HI
              go_wp2_with fail
              go_roundw
              case rel => exact ⟨i + 1, by go_num, Lib.hid ⟨by omega, HXI.out⟩⟩
              case measure => simp [intOf]; omega
          · clear hx hxm hcc hgx hP HI
            go_wp2_with fail
            go_roundw
            case rel => exact ⟨i + 1, by go_num, Lib.hid ⟨by omega, HXI.out⟩⟩
            case measure => simp [intOf]; omega
        · clear hx hxm hcc hgx hP HI
          go_wp2_with fail
          go_roundw
          case rel => exact ⟨i + 1, by go_num, Lib.hid ⟨by omega, HXI.out⟩⟩
          case measure => simp [intOf]; omega
      · clear hx hxm hcc hgx hP HI
        go_wp2_with fail
        go_roundw
        case rel => exact ⟨i + 1, by go_num, Lib.hid ⟨by omega, HXI.out⟩⟩
        case measure => simp [intOf]; omega
    · obtain ⟨bad, L, v, hP⟩ := HI.out.2
      obtain rfl : i = n := by have := HI.out.1; omega
      have hsz := fun r hr => hP.sto.size (r := r) hr
      have hlen := hP.sto.len
      have hks := hP.sto.keeps
      have HS := Lib.hid hP.sto
      have HCP := Lib.hid (copy_any hP.sto.store (by omega) (fun r hr => by have := hsz r hr; unfold maxLen; omega))
      have HSZ := Lib.hid hsz
      have HKS := Lib.hid hks
      have HLN := Lib.hid hlen
      clear hP hsz hks hlen HI
      go_wp2_with fail
      refine HCP.out.mono ?_
      rintro e w4 ⟨⟨s2, M2, L2, rfl, hs2, hl2⟩, k4⟩
      have HS2 := Lib.hid hs2
      have HL2 := Lib.hid hl2
      have HK4 := Lib.hid k4
      have HB4 := Lib.hid (HS.out.store.below_.keeps k4 (fun _ _ => id))
      clear hs2 hl2 k4
      go_wp2_with fail
      refine (crash_any HB4.out (by have := HLN.out; omega) (fun r hr => by have := HSZ.out r hr; unfold maxLen; omega) keep a2 n2 c2 (fun W kk => HKEEP.out.1.keeps (Keeps.and_ (S := fun _ => False) (HKS.out.trans HK4.out) kk (fun i hi e => by have := e.1; omega)) (fun _ _ => id)) HKEEP.out.2 (by omega)).mono ?_
      rintro e w5 ⟨rfl, ⟨L5, hs5, hl5⟩, k5⟩
      have hlo := HKS.out.size
      have h45 := HK4.out.size
      have HS5 := Lib.hid hs5
      have HL5 := Lib.hid hl5
      have HC5 := Lib.hid (HS2.out.keeps k5 (fun i hi e => by have := e.2; omega))
      have HK5 := Lib.hid (Keeps.and_ (S := fun _ => False) (HKS.out.trans HK4.out) k5 (fun i hi e => by have := e.1; omega))
      clear hs5 hl5 k5 hlo h45
      obtain ⟨m, hm⟩ : ∃ m, m = L.length := ⟨_, rfl⟩
      have hm2 : L2.length = m := by have := congrArg List.length HL2.out; rw [List.length_map, List.length_map] at this; omega
      have hm5 : L5.length = m := by have := congrArg List.length HL5.out; rw [crash_len, List.length_map, List.length_map] at this; omega
      have hmn : m ≤ 1048576 := by have := HLN.out; omega
      have HM2 := Lib.hid hm2
      have HM5 := Lib.hid hm5
      have HM := Lib.hid hm
      clear hm2 hm5 hm
      go_wp2_with fail
      refine (names_any HC5.out (by rw [HM2.out]; omega)).mono ?_
      rintro e w6 ⟨⟨nv, rfl, hO⟩, k6⟩
      obtain ⟨na, nc, rfl⟩ := hO.sl'
      have hn2 : (namesV L2).length = m := by rw [namesV, List.length_map, List.length_map, HM2.out]
      rw [hn2] at hO ⊢
      have HO6 := Lib.hid hO
      have HK6 := Lib.hid k6
      have HN2 := Lib.hid hn2
      clear hO k6 hn2
      go_wp2_with fail
      refine (names_any (HS5.out.keeps HK6.out (fun _ _ => id)) (by rw [HM5.out]; omega)).mono ?_
      rintro e w7 ⟨⟨nv, rfl, hO⟩, k7⟩
      obtain ⟨nb, nd, rfl⟩ := hO.sl'
      have hn5 : (namesV L5).length = m := by rw [namesV, List.length_map, List.length_map, HM5.out]
      rw [hn5] at hO ⊢
      have HO7 := Lib.hid hO
      have HO6 := Lib.hid (HO6.out.keeps k7 (fun _ _ _ => id))
      have HC7 := Lib.hid (HC5.out.keeps (HK6.out.trans k7) (fun _ _ => id))
      have HS7 := Lib.hid (HS5.out.keeps (HK6.out.trans k7) (fun _ _ => id))
      have HK7 := Lib.hid ((HK5.out.trans HK6.out).trans k7)
      have HN5 := Lib.hid hn5
      clear hO k7 hn5
      go_wp2_with fail
      go_loopw [12] (fun u12 wr => ∃ i : Nat, u12 = .int .i64 i ∧ Hid (i ≤ m ∧ Keeps (fun _ => False) w7 wr)) (fun u12 _ => m - (intOf u12).toNat)
      case atStart => exact ⟨0, rfl, Lib.hid ⟨Nat.zero_le _, Keeps.refl _ _⟩⟩
      case round =>
        obtain ⟨j, rfl, HJ⟩ := hrel
        rename World => wq
        by_cases hj : j < m
        · obtain ⟨r, hr⟩ : ∃ r, L[j]? = some r := ⟨_, List.getElem?_eq_getElem (by rw [← HM.out]; exact hj)⟩
          obtain ⟨r2, hr2⟩ : ∃ r, L2[j]? = some r := ⟨_, List.getElem?_eq_getElem (by rw [HM2.out]; exact hj)⟩
          obtain ⟨r5, hr5⟩ : ∃ r, L5[j]? = some r := ⟨_, List.getElem?_eq_getElem (by rw [HM5.out]; exact hj)⟩
          have e2 : r2.f = r.f := by
            have h1 := getElem_map_f hr2
            rw [HL2.out, getElem_map_f hr] at h1
            exact (Option.some.inj h1).symm
          have e5 : r5.f = crashF keep j r.f := by
            have h1 := getElem_map_f hr5
            rw [HL5.out] at h1
            unfold crashP at h1
            rw [List.getElem?_mapIdx, getElem_map_f hr] at h1
            exact (Option.some.inj h1).symm
          obtain ⟨z1, z2, z3⟩ := HSZ.out r (List.mem_of_getElem? hr)
          have hcf := crashF_data keep j (f := r.f) z1
          have hnm5 : r5.f.name = r2.f.name := by rw [e5, e2]; rfl
          have hrd2 := rd_some (HC7.out.keeps HJ.out.2 (fun _ _ => id)) (List.mem_of_getElem? hr2) (by rw [e2]; unfold maxLen; omega)
          have hsz2 := fun W (k : Keeps (fun _ => False) wq W) => sz_some ((HC7.out.keeps HJ.out.2 (fun _ _ => id)).keeps k (fun _ _ => id)) (List.mem_of_getElem? hr2) (by rw [e2]; unfold maxLen; omega)
          have hrd5 := rd_some (HS7.out.keeps HJ.out.2 (fun _ _ => id)) (List.mem_of_getElem? hr5) (by rw [hnm5, e2]; unfold maxLen; omega)
          have hsz5 := fun W (k : Keeps (fun _ => False) wq W) => sz_some ((HS7.out.keeps HJ.out.2 (fun _ _ => id)).keeps k (fun _ _ => id)) (List.mem_of_getElem? hr5) (by rw [hnm5, e2]; unfold maxLen; omega)
          obtain ⟨ga, qa, hva, hca, -, hla⟩ := own_cell (HO6.out.keeps HJ.out.2 (fun _ _ _ => id)) (namesV_at hr2) HN2.out
          obtain ⟨gb, qb, hvb, hcb, -, hlb⟩ := own_cell (HO7.out.keeps HJ.out.2 (fun _ _ _ => id)) (namesV_at hr5) HN5.out
          injection hva with ea1 ea2 ea3
          injection hvb with eb1 eb2 eb3
          subst ea1 ea3 eb1 eb3
          rw [hnm5] at hrd5 hsz5 hcb
          obtain ⟨nm, hnm⟩ : ∃ nm, nm = r2.f.name := ⟨_, rfl⟩
          obtain ⟨da, hda⟩ : ∃ da, da = r2.f.data := ⟨_, rfl⟩
          obtain ⟨su, hsu⟩ : ∃ su, su = r2.f.sure := ⟨_, rfl⟩
          obtain ⟨k, hkk⟩ : ∃ k, k = r5.f.sure := ⟨_, rfl⟩
          have hd5 : r5.f.data = da.extract 0 k := by rw [hda, e2, hkk, e5]; rfl
          have hs5 : r5.f.data.size = k := by rw [hkk, e5]; exact hcf.1
          have hsk : su ≤ k := by rw [hsu, e2, hkk, e5]; exact hcf.2.1
          have hkd : k ≤ da.size := by rw [hda, e2, hkk, e5]; exact hcf.2.2
          rw [← hnm] at hrd2 hsz2 hrd5 hsz5 hca hcb
          rw [← hda] at hrd2 hsz2
          rw [← hsu] at hsz2
          rw [hs5, ← hkk] at hsz5
          rw [hd5] at hrd5
          have HCA := Lib.hid (fun W (kq : Keeps (fun _ => False) wq W) => (World.cell?_of_block (w := wq) (w' := W) (a := ⟨ga, j, none⟩) (kq.block ga hla id)).trans hca)
          have HCB := Lib.hid (fun W (kq : Keeps (fun _ => False) wq W) => (World.cell?_of_block (w := wq) (w' := W) (a := ⟨gb, j, none⟩) (kq.block gb hlb id)).trans hcb)
          have HR2 := Lib.hid hrd2
          have HR5 := Lib.hid hrd5
          have HZ2 := Lib.hid hsz2
          have HZ5 := Lib.hid hsz5
          have hdz : da.size ≤ 16777216 := by rw [hda, e2]; exact z2
          clear hr hr2 hr5 e2 e5 z1 z2 z3 hcf hnm5 hrd2 hsz2 hrd5 hsz5 ea2 eb2 hnm hda hsu hkk hd5 hs5
          go_wp2_with fail
          refine HR2.out.mono ?_
          rintro e wz ⟨rfl, hw⟩
          obtain rfl : wq = wz := hw.symm
          go_wp2_with fail
          refine HR5.out.mono ?_
          rintro e wz ⟨rfl, hw⟩
          obtain rfl : wq = wz := hw.symm
          go_wp2_with fail
          refine (HZ2.out _ (Keeps.refl _ _)).mono ?_
          rintro e w8 ⟨rfl, k8⟩
          have HK8 := Lib.hid k8
          clear hca hcb k8
          have hca := HCA.out w8 HK8.out
          have hcb := HCB.out w8 HK8.out
          go_wp2_with fail
          refine (HZ5.out _ HK8.out).mono ?_
          rintro e w9 ⟨rfl, k9⟩
          have HK9 := Lib.hid (HK8.out.trans k9)
          clear hca hcb k9
          have hca := HCA.out w9 HK9.out
          have hcb := HCB.out w9 HK9.out
          have HJ9 := Lib.hid (HJ.out.2.trans HK9.out)
          have bnn : (nm.toList != nm.toList) = false := by simp
          have bdd : ((da.extract 0 k).toList != (da.extract 0 k).toList) = false := by simp
          have t1 : decide ((k : Int) < (su : Int)) = false := by rw [decide_eq_false_iff_not]; omega
          have t2 : decide ((da.size : Int) < (k : Int)) = false := by rw [decide_eq_false_iff_not]; omega
          go_wp2_with fail
          go_quiet (fail)
          go_wp2_with fail
          exact ⟨⟨j + 1, by go_num, Lib.hid ⟨by omega, HJ9.out.drewN _⟩⟩, by simp [intOf]; omega⟩
        · have HJJ := Lib.hid (HK7.out.trans HJ.out.2)
          go_wp2_with fail
          refine (HW.out _ HJJ.out).mono ?_
          rintro e w' ⟨rfl, k⟩
          have HK := Lib.hid (HJJ.out.trans k)
          clear k
          go_wp2_with fail
          go_ret
          exact ⟨rfl, HK.out⟩
end Go.Proofs.YtgpfmkkkpdpdfaaDoor
