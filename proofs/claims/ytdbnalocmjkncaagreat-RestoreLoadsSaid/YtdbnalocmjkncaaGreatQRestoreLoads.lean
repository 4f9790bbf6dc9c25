/-
  RestoreLoads: what the generations of any log tell is what the chapter says.
-/
import Derived.Test.YtdbnalocmjkncaaGreatQWorks23
import Derived.Test.YtdbnalocmjkncaaGreatQMade21B
import Derived.Test.YtdbnalocmjkncaaGreatQLoadR
import Derived.Test.YtdbnalocmjkncaaGreatQTorn
namespace Go.Proofs.YtdbnalocmjkncaaGreat
open Go.RowKit Go.Maps
attribute [local instance] noRes

set_option maxRecDepth 100000 in
set_option maxHeartbeats 2000000 in
theorem restoreLoads_any (w : World) (a : Option Addr) (n c : Nat) (l : List File21) (k : Int) (hl : SlAt fileR 3 w a n l ∧ ∀ x ∈ l, x.good) (he : Ety w) :
    Calls Tryz.prog 3 #[.slice a n c, .int .i64 k] w fun e w' => e = .returned (.bool true) ∧ Keeps (fun _ => False) w w' := by
  have HW := Lib.hid (fun W (k : Keeps (fun _ => False) w W) => works23 W (ety_keeps he k (fun _ _ => id)))
  have HM := Lib.hid (made21_any w a n c l hl he)
  clear hl he
  go_enter Tryz.func3, Tryz.ntmps3
  go_wp2_with fail
  refine HM.out.mono ?_
  rintro e w1 ⟨s, M, L, v, rfl, S1, D1, -⟩
  obtain ⟨av, nv, cv, rfl⟩ := D1.slc
  have HS1 := Lib.hid S1
  have HD1 := Lib.hid D1
  clear S1 D1
  go_wp2_with fail
  obtain ⟨w2, hw2⟩ : ∃ w2, w2 = w1.alloc (.cells #[.slice av nv cv, .int .i64 10000, .int .i64 0] 26) := ⟨_, rfl⟩
  have k2 : Keeps (fun _ => False) w1 w2 := by rw [hw2]; exact (Keeps.refl _ _).alloc _
  have HB2 := Lib.hid (show Blk w2 w1.heap.size 26 #[.slice av nv cv, .int .i64 10000, .int .i64 0] by rw [hw2]; exact Blk.new _ _ _)
  rw [← hw2]
  have HS2 := Lib.hid (HS1.out.same k2)
  have HD2 := Lib.hid (HD1.out.keeps k2)
  obtain ⟨xb, hxb⟩ : ∃ xb, xb = w1.heap.size := ⟨_, rfl⟩
  rw [← hxb] at HB2 ⊢
  clear hw2 k2 hxb HS1 HD1
  have hld := resload_any HS2.out tLog k (by decide)
  have hz := sizes_all HS2.out tLog (heldP k)
  have hlen := allP_len (L.map SRep.f) tLog (heldP k)
  obtain ⟨hh1, hh2⟩ := heldP_le k
  have hal := fun W (kk : Keeps (fun _ => False) w2 W) => rall_any W (.slice av nv cv) 10000 0 (L.map SRep.f) tLog k (HD2.out.keeps kk) (by rw [List.length_map]; have := HS2.out.len; omega) (by decide)
  obtain ⟨ds, hds⟩ : ∃ ds, ds = allP (L.map SRep.f) tLog (heldP k) := ⟨_, rfl⟩
  rw [← hds] at hld hz hlen hal
  have HAL := Lib.hid hal
  have HZ := Lib.hid hz
  have hdl : ds.length ≤ 16 := by omega
  clear hds hz hlen hh1 hh2 hal
  refine hld.mono ?_
  clear hld
  rintro e w3 ⟨⟨v3, rfl, O3⟩, k3⟩
  have hll := load_len HZ.out
  have hlb : ∀ x ∈ loadP ds, x.body.size ≤ 16777216 := by
    intro x hx
    unfold loadP at hx
    obtain ⟨d, hd, hx⟩ := List.mem_flatMap.1 hx
    have h1 := scan_body _ x hx
    have h2 := HZ.out d hd
    have h3 : d.data.toList.length = d.size := by simp
    omega
  have hrl := fun W b (hs : SlAt strR 1 W b ds.length ds) cc => rload_any W b ds.length cc ds hs (by omega) HZ.out
  have hrt := fun W b (hs : SlAt strR 1 W b ds.length ds) cc => r23torn_any W b ds.length cc ds hs (by omega) HZ.out
  obtain ⟨ld, hldd⟩ : ∃ ld, ld = loadP ds := ⟨_, rfl⟩
  rw [← hldd] at O3 hll hlb hrl
  have hll2 : ld.length ≤ 1073741824 := by
    have := Nat.mul_le_mul_right 16777216 hdl
    omega
  have hro := fun W b (hs : SlAt itmR 3 W b ld.length ld) cc => r23lost_any W b ld.length cc ld hs hll2 (fun x hx => by have := hlb x hx; omega)
  obtain ⟨tn, htn⟩ : ∃ tn, tn = tornS (ds.map tornI) := ⟨_, rfl⟩
  obtain ⟨lo, hlo⟩ : ∃ lo, lo = lostS ld := ⟨_, rfl⟩
  rw [← hldd, ← htn, ← hlo]
  rw [← htn] at hrt
  rw [← hlo] at hro
  have HRL := Lib.hid hrl
  have HRT := Lib.hid hrt
  have HRO := Lib.hid hro
  obtain ⟨a3, c3, rfl⟩ := O3.sl
  have HO3 := Lib.hid O3
  have HK3 := Lib.hid k3
  obtain ⟨x0, x1, x2⟩ := ((HB2.out.keeps k3 id).alloc (.cells #[.slice a3 ld.length c3, .int .i64 tn, .int .i64 lo] 31)).cells3
  clear O3 k3 hll hlb hrl hrt hro hldd htn hlo
  go_wp2_with fail
  obtain ⟨w4, hw4⟩ : ∃ w4, w4 = w3.alloc (.cells #[.slice a3 ld.length c3, .int .i64 tn, .int .i64 lo] 31) := ⟨_, rfl⟩
  have k4 : Keeps (fun _ => False) w3 w4 := by rw [hw4]; exact (Keeps.refl _ _).alloc _
  have HG4 := Lib.hid (show Blk w4 w3.heap.size 31 #[.slice a3 ld.length c3, .int .i64 tn, .int .i64 lo] by rw [hw4]; exact Blk.new _ _ _)
  rw [← hw4]
  have HK4 := Lib.hid (HK3.out.trans k4)
  have HI4 := Lib.hid (show OwnI w4 w2.heap.size (.slice a3 ld.length c3) ld from OwnS.keeps (S := fun _ => False) HO3.out k4 (fun _ _ _ _ => id))
  obtain ⟨gb, hgb⟩ : ∃ gb, gb = w3.heap.size := ⟨_, rfl⟩
  rw [← hgb] at HG4 ⊢
  clear hw4 k4 hgb HO3 HK3 x0 x1 x2
  refine (HAL.out w4 HK4.out).mono ?_
  rintro e w5 ⟨⟨v5, rfl, hO5⟩, k5⟩
  obtain ⟨a5, c5, rfl⟩ := hO5.sl'
  obtain ⟨hn5, hs5⟩ := slat_own hO5
  have HS5 := Lib.hid hs5
  have HK5 := Lib.hid (HK4.out.trans k5)
  have HG5 := Lib.hid (HG4.out.keeps k5 id)
  have HI5 := Lib.hid (show OwnI w5 w2.heap.size (.slice a3 ld.length c3) ld from OwnS.keeps (S := fun _ => False) HI4.out k5 (fun _ _ _ _ => id))
  rw [List.length_map]
  clear hO5 hn5 hs5 k5 HG4 HI4 HK4 HAL
  go_wp2_with fail
  refine (HRL.out w5 a5 HS5.out c5).mono ?_
  rintro e w6 ⟨⟨v6, rfl, hO6⟩, k6⟩
  obtain ⟨a6, c6, rfl⟩ := hO6.sl
  have HK6 := Lib.hid (HK5.out.trans k6)
  have HG6 := Lib.hid (HG5.out.keeps k6 id)
  have HL6 := Lib.hid (show OwnI w6 w2.heap.size (.slice a3 ld.length c3) ld from OwnS.keeps (S := fun _ => False) HI5.out k6 (fun _ _ _ _ => id)).slat_.2.1
  have HM6 := Lib.hid hO6.slat_.2.1
  have HD6 := Lib.hid (HS5.out.keeps k6 (fun _ _ => id))
  have hgc0 : ∀ W, Keeps (fun _ => False) w6 W → W.cell? ⟨gb, 0, none⟩ = some (.slice a3 ld.length c3) := fun W kk => (HG6.out.keeps kk id).cells3.1
  have hgc1 : ∀ W, Keeps (fun _ => False) w6 W → W.cell? ⟨gb, 1, none⟩ = some (.int .i64 tn) := fun W kk => (HG6.out.keeps kk id).cells3.2.1
  have hgc2 : ∀ W, Keeps (fun _ => False) w6 W → W.cell? ⟨gb, 2, none⟩ = some (.int .i64 lo) := fun W kk => (HG6.out.keeps kk id).cells3.2.2
  have HSM := Lib.hid (fun W (kk : Keeps (fun _ => False) w6 W) => by have hx := r8same_all W a3 a6 ld.length ld.length c3 c6 ld ld (HL6.out.keeps kk (fun _ _ => id)) (HM6.out.keeps kk (fun _ _ => id)) hll2 hll2; rw [show decide (ld = ld) = true from decide_eq_true rfl] at hx; exact hx)
  have HTO := Lib.hid (fun W (kk : Keeps (fun _ => False) w6 W) => HRT.out W a5 (HD6.out.keeps kk (fun _ _ => id)) c5)
  have HLO := Lib.hid (fun W (kk : Keeps (fun _ => False) w6 W) => HRO.out W a6 (HM6.out.keeps kk (fun _ _ => id)) c6)
  have HKW := Lib.hid (HS2.out.keeps.trans HK6.out)
  clear hO6 k6 HK5 HG5 HI5 HS5 HRL HRT HRO hdl hll2
  go_wp2_with fail
  go_region_held3 (fun W => Keeps (fun _ => False) w6 W)
    ((repeat (first | (with_reducible assumption) | (with_reducible exact Keeps.refl _ _) | refine Keeps.drew ?_ | refine Keeps.drewN ?_ _ | refine Keeps.setCell ?_ (by simp) _ | refine Keeps.setRow ?_ (by simp) _ | refine Keeps.alloc ?_ _)))
    (first
      | (go_at_call 10; rename_i hk _ _; refine (HSM.out _ hk).mono ?_; rintro e w7 ⟨rfl, k7⟩; have kk7 : Keeps (fun _ => False) w6 w7 := hk.trans k7)
      | (go_at_call 11; rename_i hk _ _; refine (HTO.out _ hk).mono ?_; rintro e w8 ⟨rfl, k8⟩; have kk8 : Keeps (fun _ => False) w6 w8 := hk.trans k8)
      | (go_at_call 12; rename_i hk _ _; refine (HLO.out _ hk).mono ?_; rintro e w9 ⟨rfl, k9⟩; have kk9 : Keeps (fun _ => False) w6 w9 := hk.trans k9)
      | (go_at_call 13; rename_i hk _ _; refine (HW.out _ (HKW.out.trans hk)).mono ?_; rintro e w10 ⟨rfl, k10⟩; have kk10 : Keeps (fun _ => False) w6 w10 := hk.trans k10))
  have HKF := Lib.hid (HKW.out.trans kk10)
  go_wp2_with fail
  go_ret
  exact ⟨rfl, HKF.out⟩
theorem restoreLoads_walk (w : World) (a : Option Addr) (n c : Nat) (l : List File21) (k : Int) (hl : SlAt fileR 3 w a n l ∧ ∀ x ∈ l, x.good) (_hk : (Lit.int .i64 k).wf = true) :
    Calls Tryz.prog 3 #[.slice a n c, .int .i64 k] w fun e w' => e = .returned (.bool true) ∧ Keeps (fun _ => False) w w' :=
  restoreLoads_any w a n c l k hl trivial
end Go.Proofs.YtdbnalocmjkncaaGreat
