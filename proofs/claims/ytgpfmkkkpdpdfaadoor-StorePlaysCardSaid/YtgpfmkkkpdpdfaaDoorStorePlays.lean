/-
  StorePlays: whatever is appended, synced, renamed, removed, fails and crashes, and a copy is a store by itself.
-/
import Derived.Test.YtgpfmkkkpdpdfaaDoorDoAll11
namespace Go.Proofs.YtgpfmkkkpdpdfaaDoor
open Go.RowKit Go.Maps

section
variable {w0 w w4 w5 w6 : World} {s M bad n s2 M2 xb : Nat} {most : Int} {L L2 : List SRep} {v : Value}
/-- the blocks of the store that was copied -/
def Elder (w0 w w4 : World) (i : Nat) : Prop := (w0.heap.size ≤ i ∧ i < w.heap.size) ∧ StT w4 i
theorem Pair.app (h : Pair w0 w s M most bad L v xb n) (k4 : Keeps (fun _ => False) w w4) (nm b : ByteArray) (hb : b.size ≤ 17179869184) :
    Calls Tryd.prog 39 #[.pointer (some ⟨s, 0, none⟩), .string nm, .string b] w4 fun e w5 => ∃ v' L5 bad5, e = .returned v' ∧ StoreAt w5 (up (Elder w0 w w4) w4) s most bad5 M L5 ∧ Fit most (L5.map SRep.f) ∧ L5.length ≤ n + 1 ∧ Keeps (Elder w0 w w4) w4 w5 := by
  have hS := h.sto
  have hst : StoreAt w4 (Elder w0 w w4) s most bad M L := (hS.store.below_.keeps k4 (fun _ _ => id)).shrink
  refine (append_any hst nm b hS.hb (by have := hS.len; have := hS.hn; omega) hS.m1 hS.m2 hS.tot hb).mono ?_
  rintro e w5 ⟨v', L5, rfl, _, hs5, hl5, k5⟩
  have hlf := hS.fit.append hS.rise bad nm b
  refine ⟨v', L5, _, rfl, hs5, by rw [hl5]; exact hlf.1, ?_, k5⟩
  have h1 := hlf.2.2
  rw [← hl5, List.length_map, List.length_map] at h1
  have := hS.len
  omega
theorem crash_none {L5 : List SRep} {bad5 : Nat} (hs5 : StoreAt w5 (up (Elder w0 w w4) w4) s most bad5 M L5) (hf : Fit most (L5.map SRep.f)) (hm : most ≤ 16777216) (hl : L5.length ≤ 4294967296) :
    Calls Tryd.prog 40 #[.pointer (some ⟨s, 0, none⟩), .slice none 0 0] w5 fun e w6 => e = .returned (.tuple #[]) ∧ Keeps (fun i => up (Elder w0 w w4) w4 i ∧ StT w5 i) w5 w6 := by
  refine (crash_any hs5.shrink hl (fun r hr => ?_) [] none 0 0 (fun W _ => ⟨rfl, fun h => absurd h (by omega)⟩) (fun k hk => by cases hk) (by omega)).mono ?_
  · have hmem : r.f ∈ L5.map SRep.f := List.mem_map.2 ⟨r, hr, rfl⟩
    have h1 := hf.each _ hmem
    have h2 := totF_mem hmem
    have h3 := hf.fit
    have h4 := (namedP_size h1.2).2
    exact ⟨h1.1, by omega, by unfold maxLen; omega⟩
  · rintro e w6 ⟨he, _, k⟩
    exact ⟨he, k⟩
theorem Pair.copied (h : Pair w0 w s M most bad L v xb n) (hs2 : StoreAt w4 (fun i => w.heap.size ≤ i) s2 most bad M2 L2) (hl2 : L2.map SRep.f = L.map SRep.f) (k4 : Keeps (fun _ => False) w w4)
    (k5 : Keeps (Elder w0 w w4) w4 w5) (k6 : Keeps (fun i => up (Elder w0 w w4) w4 i ∧ StT w5 i) w5 w6) : Pair w0 w6 s2 M2 most bad L2 v xb n := by
  have hS := h.sto
  have hlo := hS.keeps.size
  have h4 := k4.size
  have hc4 := hs2.below_
  have hc5 := hc4.keeps k5 (fun i hi e => by have := e.1.2; omega)
  have hc6 := hc5.keeps k6 (fun i hi e => by
    rcases e.1 with e | e
    · have := e.1.2; omega
    · omega)
  have hlen : L2.length = L.length := by have := congrArg List.length hl2; rw [List.length_map, List.length_map] at this; exact this
  have kk : Keeps (fun i => w0.heap.size ≤ i) w w6 := (k4.none_.trans (k5.mono fun i _ e => e.1.1)).trans (k6.mono fun i _ e => by
    rcases e.1 with e | e
    · exact e.1.1
    · omega)
  have hd5 : DocL w5 v (L.map SRep.f) := OwnS.keeps (h.doc.keeps k4) k5 (fun i _ _ ⟨_, hb⟩ e => e.2.not hb (by decide) (by decide) (by decide))
  have hd6 : DocL w6 v (L.map SRep.f) := Sto.doc hd5 k6
  have hx5 : Blk w5 xb 29 #[v, .int .i64 most, .int .i64 bad] := (h.xat.keeps k4 id).keeps k5 (fun e => e.2.not (h.xat.keeps k4 id) (by decide) (by decide) (by decide))
  exact ⟨⟨hS.ety, hS.keeps.and_ kk (fun i hi e => by omega), hc6.mono fun i hi => by omega, by rw [hl2]; exact hS.fit, by rw [hlen]; exact hS.len, hS.hn, hS.hb, hS.m1, hS.m2⟩, by rw [hl2]; exact hd6, hx5.other k6 (by decide) (by decide) (by decide), h.xlo⟩
end

set_option maxRecDepth 100000 in
set_option maxHeartbeats 2000000 in
theorem storePlays_walk (w : World) (most : Int) (a : Option Addr) (n c : Nat) (l : List Op11) (_hm : Lit.wf (.int .i64 most) = true) (hl : SlAt opR11 6 w a n l ∧ ∀ x ∈ l, x.good w) (he : Ety w) :
    Calls Tryd.prog 8 #[.int .i64 most, .slice a n c] w fun e w' => e = .returned (.bool true) ∧ Keeps (fun _ => False) w w' := by
  have HE := Lib.hid he
  have HW := Lib.hid (fun W (k : Keeps (fun _ => False) w W) => works11 W (ety_keeps he k (fun _ _ => id)))
  have HOPS := Lib.hid hl
  clear he hl
  by_cases h60 : 60 < n
  · go_enter Tryd.func8, Tryd.ntmps8
    go_wp2_with fail
    refine (HW.out _ (Keeps.refl _ _)).mono ?_
    rintro e w' ⟨rfl, k⟩
    have HK := Lib.hid k
    clear k
    go_wp2_with fail
    go_ret
    exact ⟨rfl, HK.out⟩
  by_cases hrange : 1 ≤ most ∧ most ≤ 16777216
  case neg =>
    have HNO := Lib.hid hrange
    have h : most < 1 ∨ (1 ≤ most ∧ 16777216 < most) := by omega
    clear hrange
    rcases h with h | ⟨h, h'⟩
    all_goals
      go_enter Tryd.func8, Tryd.ntmps8
      go_wp2_with fail
      refine (snew_no HNO.out).mono ?_
      rintro e w1 ⟨v, rfl, E, k⟩
      have HEV := Lib.hid E
      have HK1 := Lib.hid k
      clear E k
      go_wp2_with fail
      refine (of_err _ HEV.out (ety_keeps HE.out HK1.out (fun _ _ => id))).mono ?_
      rintro e w2 ⟨rfl, k⟩
      have HK2 := Lib.hid (HK1.out.trans k)
      clear k
      go_wp2_with fail
      refine (HW.out _ HK2.out).mono ?_
      rintro e w' ⟨rfl, k⟩
      have HK := Lib.hid (HK2.out.trans k)
      clear k
      go_wp2_with fail
      go_ret
      exact ⟨rfl, HK.out⟩
  obtain ⟨m1, m2⟩ := hrange
  go_enter Tryd.func8, Tryd.ntmps8
  go_wp2_with fail
  refine (snew_ok HE.out (Keeps.refl _ _) m1 m2).mono ?_
  rintro e w1 ⟨s, M, rfl, S1, k1⟩
  have HS1 := Lib.hid S1
  have hz1 := k1.size
  clear S1 k1
  go_wp2_with fail
  have hp : Pairs w (w1.alloc (.cells #[.slice none 0 0, .int .i64 most, .int .i64 0] 29)) s M most w1.heap.size 0 :=
    ⟨0, [], _, HS1.out.same ((Keeps.refl _ _).alloc _), OwnS.none_, Blk.new _ _ _, hz1⟩
  have HP := Lib.hid hp
  obtain ⟨xb, hxb⟩ : ∃ xb, xb = w1.heap.size := ⟨_, rfl⟩
  rw [← hxb] at HP ⊢
  have HXB := Lib.hid hxb
  clear hp hxb hz1
  go_loopw [5, 8] (fun u5 u8 wr => ∃ i s M : Nat, u8 = .int .i64 i ∧ u5 = .pointer (some ⟨s, 0, none⟩) ∧ Hid (i ≤ n ∧ Pairs w wr s M most xb i)) (fun _ u8 _ => n - (intOf u8).toNat)
  case atStart => exact ⟨0, s, M, rfl, rfl, Lib.hid ⟨Nat.zero_le _, HP.out⟩⟩
  case round =>
    clear HS1 HP
    obtain ⟨i, s, M, rfl, rfl, HI⟩ := hrel
    rename World => wr
    by_cases hi : i < n
    · obtain ⟨x, b, off, hx, hxm, rfl, hbl, hcc⟩ := opAt HOPS.out.1 hi
      obtain ⟨bad, L, v, hP⟩ := HI.out.2
      have hcw := hcc wr hP.sto.keeps
      obtain ⟨o0, o1, o2, o3, o4, o5⟩ := hcw
      have hgx := HOPS.out.2 x hxm
      have hbw : b < wr.heap.size := Nat.lt_of_lt_of_le hbl hP.sto.keeps.size
      obtain ⟨a0, n0, c0, rfl⟩ := hP.slc
      obtain ⟨qk, qa, qb, qs, qn, qka, qkn, qkc, qkp⟩ := x
      simp only at o0 o1 o2 o3 o4 o5
      have hP1 := hP.same (w' := wr.alloc (.cells #[.int .u8 qk, .string qa, .string qb, .string qs, .int .i64 qn, .slice qka qkn qkc] 56)) (by (repeat (first | (with_reducible assumption) | (with_reducible exact Keeps.refl _ _) | refine Keeps.drew ?_ | refine Keeps.drewN ?_ _ | refine Keeps.setCell ?_ (by simp) _ | refine Keeps.setRow ?_ (by simp) _ | refine Keeps.alloc ?_ _)))
      have hkn : qkn ≤ maxLen := hgx.2.2.2.2.2.1
      have HP1 := Lib.hid hP1
      have HXI := Lib.hid (show (Pairs w (wr.alloc (.cells #[.int .u8 qk, .string qa, .string qb, .string qs, .int .i64 qn, .slice qka qkn qkc] 56)) s M most xb (i + 1)) from ⟨bad, L, _, hP1.mono_n (by omega)⟩)
      have HGX := Lib.hid hgx
      have hxl := hP.xat.lt
      clear hx hxm hcc hgx hP HI hP1
      by_cases s1 : qs.size ≤ 100
      · by_cases s2 : qa.size ≤ 100
        · by_cases s3 : qb.size ≤ 100
          · by_cases s4 : qkn ≤ 20
            · by_cases s7 : qk % 8 = 7
              · have t7 : ((qk : Int) % 8 == 7) = true := by rw [beq_iff_eq]; omega
                have HCP := Lib.hid (copy_any HP1.out.sto.store (by have := HP1.out.sto.len; have := HP1.out.sto.hn; omega) (fun r hr => by have := HP1.out.sto.size hr; unfold maxLen; omega))
                go_wp2_with fail
                refine HCP.out.mono ?_
                rintro e w4 ⟨⟨s2, M2, L2, rfl, hs2, hl2⟩, k4⟩
                have HS2 := Lib.hid hs2
                have HL2 := Lib.hid hl2
                have HK4 := Lib.hid k4
                clear hs2 hl2 k4
                go_wp2_with fail
                refine (HP1.out.app HK4.out ⟨#[111, 116, 104, 101, 114]⟩ ⟨#[120]⟩ (by decide)).mono ?_
                rintro e w5 ⟨v5, L5, bad5, rfl, hs5, hf5, hl5, k5⟩
                have HCR := Lib.hid (crash_none hs5 hf5 m2 (by omega))
                have HK5 := Lib.hid k5
                clear hs5 hf5 hl5 k5
                go_wp2_with fail
                refine HCR.out.mono ?_
                rintro e w6 ⟨rfl, k6⟩
                have hP6 := HP1.out.copied HS2.out HL2.out HK4.out HK5.out k6
                have HP6 := Lib.hid hP6
                have hsm := same11_any hP6.sto hP6.doc most bad
                simp only [docS] at hsm
                have HSM := Lib.hid hsm
                obtain ⟨y0, y1, y2⟩ := hP6.xat.cells3
                clear hP6 hsm k6
                go_wp2_with fail
                refine HSM.out.mono ?_
                rintro e w7 ⟨rfl, k7⟩
                have HP7 := Lib.hid ((HP6.out.same k7).mono_n (by omega))
                clear k7
                go_wp2_with fail
                go_roundw
                case rel => exact ⟨i + 1, s2, M2, by go_num, rfl, Lib.hid ⟨by omega, bad, L2, _, HP7.out⟩⟩
                case measure => simp [intOf]; omega
              · have t7 : ((qk : Int) % 8 == 7) = false := by rw [beq_eq_false_iff_ne]; omega
                have hdo := do11_any HP1.out.sto (by omega) HP1.out.doc _ HGX.out ⟨s1, s2, s3, fun _ => s4⟩
                obtain ⟨x, hx⟩ : ∃ x, x = doP most bad (L.map SRep.f) ⟨qk, qa, qb, qs, qn, qka, qkn, qkc, qkp⟩ := ⟨_, rfl⟩
                rw [← hx] at hdo
                simp only [docS, opV11] at hdo
                have HDO := Lib.hid hdo
                obtain ⟨y0, y1, y2⟩ := HP1.out.xat.cells3
                clear hdo hx
                go_wp2_with fail
                refine HDO.out.mono ?_
                rintro e w3 ⟨a3, n3, c3, L3, rfl, hS3, hl3, hd3, k3⟩
                have Z := HP1.out.xat.other k3 (by decide) (by decide) (by decide)
                obtain ⟨⟨z0, z1, z2⟩, zf0, zf1, zf2⟩ := (Z.alloc (.cells #[.slice a3 n3 c3, .int .i64 most, .int .i64 x.1] 29)).all3
                have hzl := Z.lt
                obtain ⟨⟨zz0, zz1, zz2⟩, zg0, zg1, zg2⟩ := Z.all3
                have hP3 := HP1.out.fin hS3 hl3 hd3 k3 (wx := (((w3.setCell ⟨xb, 0, none⟩ (.slice a3 n3 c3)).setCell ⟨xb, 1, none⟩ (.int .i64 most)).setCell ⟨xb, 2, none⟩ (.int .i64 x.1)).alloc (.cells #[.slice a3 n3 c3, .int .i64 most, .int .i64 x.1] 29)) (((((Keeps.refl (fun i => i = xb) w3).setCell (fun _ => rfl) _).setCell (fun _ => rfl) _).setCell (fun _ => rfl) _).alloc _) ((Z.set3 _ _ _).alloc _)
                have HP3 := Lib.hid hP3
                have hsm := same11_any hP3.sto hP3.doc most x.1
                simp only [docS] at hsm
                have HSM := Lib.hid hsm
                clear hS3 hl3 hd3 k3 Z hP3 hsm y0 y1 y2
                go_wp2_with fail
                refine HSM.out.mono ?_
                rintro e w7 ⟨rfl, k7⟩
                have HP7 := Lib.hid (HP3.out.same k7)
                clear k7
                go_wp2_with fail
                go_roundw
                case rel => exact ⟨i + 1, s, M, by go_num, rfl, Lib.hid ⟨by omega, x.1, L3, _, HP7.out⟩⟩
                case measure => simp [intOf]; omega
            · go_wp2_with fail
              go_roundw
              case rel => exact ⟨i + 1, s, M, by go_num, rfl, Lib.hid ⟨by omega, HXI.out⟩⟩
              case measure => simp [intOf]; omega
          · go_wp2_with fail
            go_roundw
            case rel => exact ⟨i + 1, s, M, by go_num, rfl, Lib.hid ⟨by omega, HXI.out⟩⟩
            case measure => simp [intOf]; omega
        · go_wp2_with fail
          go_roundw
          case rel => exact ⟨i + 1, s, M, by go_num, rfl, Lib.hid ⟨by omega, HXI.out⟩⟩
          case measure => simp [intOf]; omega
      · go_wp2_with fail
        go_roundw
        case rel => exact ⟨i + 1, s, M, by go_num, rfl, Lib.hid ⟨by omega, HXI.out⟩⟩
        case measure => simp [intOf]; omega
    · have HII := Lib.hid (show Keeps (fun _ => False) w wr by obtain ⟨_, _, _, hP⟩ := HI.out.2; exact hP.sto.keeps)
      clear HI
      go_wp2_with fail
      refine (HW.out _ HII.out).mono ?_
      rintro e w' ⟨rfl, k⟩
      have HK := Lib.hid (HII.out.trans k)
      clear k
      go_wp2_with fail
      go_ret
      exact ⟨rfl, HK.out⟩
end Go.Proofs.YtgpfmkkkpdpdfaaDoor
