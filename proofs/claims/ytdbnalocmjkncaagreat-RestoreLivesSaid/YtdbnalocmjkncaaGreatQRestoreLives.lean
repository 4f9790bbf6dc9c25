/-
  RestoreLives: behind each crash, however many there were, a log is a piece of what was there behind the crash ahead and what was taken since, which ends not ahead of what was sure.
-/
import Derived.Test.YtdbnalocmjkncaaGreatQWorks23
import Derived.Test.YtdbnalocmjkncaaGreatQLived
import Derived.Test.YtdbnalocmjkncaaGreatQOps23
namespace Go.Proofs.YtdbnalocmjkncaaGreat
open Go.RowKit Go.Maps
attribute [local instance] noRes

theorem Cut.getc {base : ByteArray} {k : Nat} {l : List SFile} {al gone : List Itm} {G : List ByteArray} {cur : Option ByteArray} (h : Cut base k l al gone G cur) : (getG SFile.name base l).map (fun f => (f.data, f.sure)) = cur.map fun d => (d, d.size) := by
  have := h.now
  unfold genV at this
  rwa [gen_zero] at this
/-- a log begun anew: nothing is lost but what has no room -/
theorem Cut.begin {base : ByteArray} {k : Nat} {l : List SFile} {al gone : List Itm} {G : List ByteArray} {cur : Option ByteArray} (h : Cut base k l al gone G cur) (hnm : ∀ i : Nat, i ≤ 16 → namedP (genName base i) = true) (hk : k ≤ 16) :
    (beginP base (k - 1) 0 l).1 = 0 ∧ (beginP base (k - 1) 0 l).2.1 = 0 ∧ ∃ gone' G', Log base k (beginP base (k - 1) 0 l).2.2 al al.length gone' G' none := by
  have hg := h.getc
  unfold beginP
  cases cur with
  | none =>
    cases hf : getG SFile.name base l with
    | none => exact ⟨rfl, rfl, _, _, h.empty⟩
    | some f => rw [hf] at hg; cases hg
  | some d =>
    cases hf : getG SFile.name base l with
    | none => rw [hf] at hg; cases hg
    | some f => exact h.turn hnm hk
theorem sizes_most {w wr : World} {s M bad n : Nat} {most : Int} {L : List SRep} (hS : Sto w wr s M most bad L n) (base : ByteArray) (q : Nat) {z : Nat} (hz : most ≤ z) : ∀ d ∈ allP (L.map SRep.f) base q, d.size ≤ z := by
  intro d hd
  unfold allP at hd
  obtain ⟨j, _, hj⟩ := List.mem_filterMap.1 hd
  unfold genF at hj
  cases hg : getG SFile.name (genName base j) (L.map SRep.f) with
  | none => rw [hg] at hj; cases hj
  | some f =>
    rw [hg] at hj
    obtain rfl := Option.some.inj hj
    have h2 := totF_mem (getG_some hg).1
    have h3 := hS.fit.fit
    omega
theorem life_at {w : World} {a : Option Addr} {n : Nat} {l : List Life23} (h : SlAt lifeR23 2 w a n l) {i : Nat} (hi : i < n) : ∃ x b off, l[i]? = some x ∧ a = some ⟨b, off, none⟩ ∧ b < w.heap.size ∧ ∀ W, Keeps (fun _ => False) w W →
    (W.cell? ⟨b, off + i * 2, none⟩ = some (.slice x.a x.n x.c) ∧ W.cell? ⟨b, off + i * 2 + 1, none⟩ = some (.slice x.ka x.kn x.kc)) := by
  obtain ⟨x, hx⟩ : ∃ x, l[i]? = some x := ⟨_, List.getElem?_eq_getElem (by rw [h.1]; exact hi)⟩
  obtain ⟨b, off, ha, hb, hc⟩ := h.2 (by omega)
  have hh : ∀ W, Keeps (fun _ => False) w W → ∀ j v, (lifeR23 x)[j]? = some v → W.cell? ⟨b, off + i * 2 + j, none⟩ = some v := fun W k j v hj => (World.cell?_of_block (w := w) (k.block b hb id)).trans (hc i x j v hx hj)
  exact ⟨x, b, off, hx, ha, hb, fun W k => ⟨hh W k 0 _ rfl, hh W k 1 _ rfl⟩⟩
set_option maxRecDepth 100000 in
theorem field_items (a : Option Addr) (n c : Nat) (x y : Int) (w : World) : (Instr.field 31 (.agg #[.slice a n c, .int .i64 x, .int .i64 y]) 0).run Tryz.prog w = .ok (.slice a n c) w := by
  unfold Instr.field
  rw [Sem.run_bind, run_underlying Tryz.underlying31]
  rfl
set_option maxRecDepth 100000 in
set_option maxHeartbeats 2000000 in
theorem restoreLives_any (w : World) (m q : Int) (a : Option Addr) (n c : Nat) (l : List Life23) (hm : Lit.wf (.int .u8 m) = true) (hq : Lit.wf (.int .u8 q) = true) (hl : SlAt lifeR23 2 w a n l ∧ ∀ x ∈ l, x.good w) (he : Ety w) :
    Calls Tryz.prog 5 #[.int .u8 m, .int .u8 q, .slice a n c] w fun e w' => e = .returned (.bool true) ∧ Keeps (fun _ => False) w w' := by
  have hm : 0 ≤ m ∧ m ≤ 255 := by simpa [Lit.wf, IntKind.min, IntKind.max, IntKind.signed, IntKind.bits] using hm
  have hq : 0 ≤ q ∧ q ≤ 255 := by simpa [Lit.wf, IntKind.min, IntKind.max, IntKind.signed, IntKind.bits] using hq
  obtain ⟨m0, rfl⟩ := Int.eq_ofNat_of_zero_le hm.1
  obtain ⟨q0, rfl⟩ := Int.eq_ofNat_of_zero_le hq.1
  have hm2 : m0 ≤ 255 := by omega
  have hq2 : q0 ≤ 255 := by omega
  have HW := Lib.hid (fun W (k : Keeps (fun _ => False) w W) => works23 W (ety_keeps he k (fun _ _ => id)))
  have HL := Lib.hid hl
  have HE := Lib.hid he
  clear hl he hm hq
  by_cases hg : 5 < n
  · have hg2 : (5 : Int) < n := by omega
    go_enter Tryz.func5, Tryz.ntmps5
    go_wp2_with fail
    refine (HW.out _ (Keeps.refl _ _)).mono ?_
    rintro e w1 ⟨rfl, k1⟩
    have HK1 := Lib.hid k1
    clear k1
    go_wp2_with fail
    go_ret
    exact ⟨rfl, HK1.out⟩
  · have hg2 : ¬ (5 : Int) < n := by omega
    have hn5 : n ≤ 5 := by omega
    clear hg
    obtain ⟨k, hkk⟩ : ∃ k, k = m0 % 5 + 2 := ⟨_, rfl⟩
    have hk1 : 1 ≤ k ∧ k ≤ 6 := by omega
    have hki : ((m0 : Nat) : Int) % 5 = (k : Int) - 2 := by omega
    obtain ⟨size, hsz0⟩ : ∃ size, size = 64 + q0 := ⟨_, rfl⟩
    have hsz1 : 64 ≤ size ∧ size ≤ 1048576 := by omega
    have hszi : (64 : Int) + (q0 : Int) = (size : Int) := by omega
    have hhk := heldP_is (k := k) (by omega)
    have HHK := Lib.hid hhk
    clear hkk hsz0 hhk
    go_enter Tryz.func5, Tryz.ntmps5
    go_wp2_with fail
    refine (snew_ok HE.out (Keeps.refl _ _) (by decide) (by decide)).mono ?_
    rintro e w1 ⟨s, M, rfl, S1, k1⟩
    have HS1 := Lib.hid S1
    clear S1 k1
    go_wp2_with fail
    clear hki
    go_loopw [10, 11] (fun u10 u11 wr => ∃ (i : Nat), i ≤ n ∧ u11 = .int .i64 i ∧ Hid (∃ L nn al G cur, Sto w wr s M 8000 0 L nn ∧ OwnI wr w.heap.size u10 al ∧ Cut tLog k (L.map SRep.f) al [] G cur ∧ nn ≤ 620 * i ∧ al.length ≤ 48000)) (fun _ u11 _ => n - (intOf u11).toNat)
    case atStart => exact ⟨0, Nat.zero_le _, rfl, Lib.hid ⟨[], 0, [], [], none, HS1.out, OwnS.none_, Cut.none_ hk1.1, Nat.zero_le _, Nat.zero_le _⟩⟩
    case round =>
      obtain ⟨i, hin, rfl, L, nn, al, G, cur, S0, O0, C0, hnn, hal⟩ := hrel
      rename World => wr
      obtain ⟨av, cv, rfl⟩ := O0.sl
      have HS0 := Lib.hid S0
      have HO0 := Lib.hid O0
      have HC0 := Lib.hid C0
      clear S0 O0 C0
      by_cases hlt : i < n
      · obtain ⟨x, b, off, hx, rfl, hb, hc⟩ := life_at HL.out.1 hlt
        have hgd := HL.out.2 x (List.mem_of_getElem? hx)
        have HGD := Lib.hid hgd
        have HC := Lib.hid hc
        obtain ⟨o0, o1⟩ := hc wr HS0.out.keeps
        clear hx hc hgd
        by_cases hkl : 20 < x.kn
        · have hkl2 : (20 : Int) < x.kn := by omega
          go_wp2_with fail
          refine (HW.out _ HS0.out.keeps).mono ?_
          rintro e w1 ⟨rfl, k1⟩
          have HK1 := Lib.hid (HS0.out.keeps.trans k1)
          clear k1
          go_wp2_with fail
          go_ret
          exact ⟨rfl, HK1.out⟩
        · have hkl2 : ¬ (20 : Int) < x.kn := by omega
          have hbg := resbegin_any HS0.out (by omega) tLog (k : Int) (by decide)
          rw [HHK.out] at hbg
          obtain ⟨b1, b2, gone', G', hlg⟩ := HC0.out.begin tLog_named (by omega)
          obtain ⟨R, hR⟩ : ∃ R, R = beginP tLog (k - 1) 0 (L.map SRep.f) := ⟨_, rfl⟩
          rw [← hR] at hbg b1 b2 hlg
          have HLG := Lib.hid hlg
          clear hR hlg
          go_wp2_with fail
          refine hbg.mono ?_
          clear hbg
          rintro e w2 ⟨v2, L2, rfl, E2, S2, hl2, k2⟩
          rw [b1] at E2
          rw [b2] at S2
          rw [← hl2] at HLG
          obtain rfl := E2.nil_
          have HS2 := Lib.hid S2
          have HO2 := Lib.hid (ownI_acts HO0.out k2.st)
          clear E2 S2 hl2 k2 b1 b2
          go_wp2_with fail
          have hld := resload_any HS2.out tLog (k : Int) (by decide)
          rw [HHK.out] at hld
          have hrd := HLG.out.load
          have hz := load_len (sizes_most HS2.out tLog k (z := 8000) (by decide))
          have hz2 := allP_len (L2.map SRep.f) tLog k
          obtain ⟨ds, hds⟩ : ∃ ds, ds = allP (L2.map SRep.f) tLog k := ⟨_, rfl⟩
          rw [← hds] at hld hrd hz hz2
          obtain ⟨ld, hldd⟩ : ∃ ld, ld = loadP ds := ⟨_, rfl⟩
          rw [← hldd] at hld hrd hz
          have hdl := drop_load (all := al) (gone := gone') (l := ld) (rest := []) (by rw [List.append_nil]; exact hrd)
          have hle := congrArg List.length hrd
          rw [List.length_append] at hle
          have HDL := Lib.hid hdl
          have HLE := Lib.hid hle
          clear hds hldd hrd hdl hle hz hz2
          refine hld.mono ?_
          clear hld
          rintro e w3 ⟨⟨v3, rfl, hO3⟩, k3⟩
          obtain ⟨a3, c3, rfl⟩ := hO3.sl
          have HS3 := Lib.hid (HS2.out.same k3)
          have HL3 := Lib.hid hO3.slat_.2.1
          have hO3' : OwnI w3 w.heap.size (.slice av al.length cv) al := OwnS.keeps (S := fun _ => False) HO2.out k3 (fun _ _ _ _ => id)
          have HO3 := Lib.hid hO3'
          have HA3 := Lib.hid hO3'.slat_
          clear hO3 k3 hO3'
          have HWI := Lib.hid (rwithin_true w3 a3 av ld.length al.length c3 cv ld al HL3.out HA3.out.2.1 al.length gone'.length HDL.out.1 (by have := HLE.out; omega) HDL.out.2 HA3.out.2.2.1 (by omega) HA3.out.2.2.2)
          have hfi := field_items a3 ld.length c3 (tornS (List.map tornI ds)) (lostS ld)
          go_wp2_with fail
          clear hfi
          refine HWI.out.mono ?_
          rintro e w4 ⟨rfl, k4⟩
          have HS4 := Lib.hid (HS3.out.same k4)
          have HO4 := Lib.hid (show OwnI w4 w.heap.size (.slice av al.length cv) al from OwnS.keeps (S := fun _ => False) HO3.out k4 (fun _ _ _ _ => id))
          clear k4 HWI HA3 HL3 HDL HLE
          go_wp2_with fail
          refine (jnew HS4.out tLog (by decide) k size (by omega) hsz1).mono ?_
          rintro e w5 ⟨⟨jb, rfl, J5⟩, k5⟩
          have HT5 := Lib.hid (show Torn (nn + 17) al.length w w5 s M jb 8000 k size 0 al al.length 0 L2 (nn + 17) false 0 gone' G' none (.slice av al.length cv) from ⟨J5, HLG.out, OwnS.keeps (S := fun _ => False) HO4.out k5 (fun _ _ _ _ => id), by omega, ⟨Nat.le_refl _, Nat.le_refl _⟩, Nat.le_refl _, fun h => absurd h (by omega)⟩)
          obtain ⟨p0, p1⟩ := HC.out w5 HT5.out.keeps
          clear J5 k5 HS4 HS3 HO4 HO3 HLG o0 o1
          go_wp2_with fail
          refine (lived_any (nn + 17) al.length (by omega) (by omega) w w5 s M jb k size x.a x.n x.c x.l HGD.out.1.2 HGD.out.1.1 al 0 L2 (nn + 17) gone' G' none _ HT5.out).mono ?_
          rintro e w6 ⟨v6, i6, al6, sure6, bad6, L6, nn6, rest6, lost6, gone6, G6, cur6, rfl, hi6, T6⟩
          obtain ⟨av6, cv6, rfl⟩ := T6.own.sl
          have hle6 := T6.le
          have hnn6 := T6.n_le
          have HT6 := Lib.hid T6
          obtain ⟨q0', q1'⟩ := HC.out w6 HT6.out.keeps
          have hcr := T6.log.crash2 x.keep
          have HCR := Lib.hid hcr
          have hkn : x.kn ≤ 4611686018427387904 := by omega
          clear p0 p1 T6 HT5 hcr HS0 HO0 HC0
          go_wp2_with fail
          refine (scrash HT6.out.jour.sto x.keep x.ka x.kn x.kc HGD.out.2.2.1 (fun k hk => HGD.out.2.2.2 k hk) hkn).mono ?_
          rintro e w7 ⟨L7, rfl, S7, hl7, k7⟩
          have HS7 := Lib.hid S7
          have HO7 := Lib.hid (ownI_acts HT6.out.own k7.st)
          rw [← hl7] at HCR
          clear S7 hl7 k7 HT6 q0' q1'
          go_wp2_with fail
          have hld := resload_any HS7.out tLog (k : Int) (by decide)
          rw [HHK.out] at hld
          obtain ⟨rs, cur7, hrs, hsu, hC7⟩ := HCR.out
          have hz := load_len (sizes_most HS7.out tLog k (z := 8000) (by decide))
          have hz2 := allP_len (L7.map SRep.f) tLog k
          obtain ⟨ds, hds⟩ : ∃ ds, ds = allP (L7.map SRep.f) tLog k := ⟨_, rfl⟩
          rw [← hds] at hld hrs hsu hC7 hz hz2
          obtain ⟨ld, hldd⟩ : ∃ ld, ld = loadP ds := ⟨_, rfl⟩
          rw [← hldd] at hld hrs hsu hC7 hz
          have hdl := drop_load hrs
          have HDL := Lib.hid hdl
          have HSU := Lib.hid hsu
          have HC7 := Lib.hid hC7
          have hld48 : ld.length ≤ 48000 := by
            have h1 := Nat.mul_le_mul_right 8000 hz2
            omega
          clear hds hldd hrs hdl hsu hC7 hz hz2 HCR
          refine hld.mono ?_
          clear hld
          rintro e w8 ⟨⟨v8, rfl, hO8⟩, k8⟩
          obtain ⟨a8, c8, rfl⟩ := hO8.sl
          have HO8 := Lib.hid hO8
          have HK8 := Lib.hid k8
          clear hO8 k8
          go_wp2_with fail
          have hO8 := HO8.out
          have k8 := HK8.out
          obtain ⟨w9, hw9⟩ : ∃ w9, w9 = w8.alloc (.cells #[.slice a8 ld.length c8, .int .i64 (tornS (ds.map tornI)), .int .i64 (lostS ld)] 31) := ⟨_, rfl⟩
          have k9 : Keeps (fun _ => False) w8 w9 := by rw [hw9]; exact (Keeps.refl _ _).alloc _
          have hb9 : Blk w9 w8.heap.size 31 #[.slice a8 ld.length c8, .int .i64 (tornS (ds.map tornI)), .int .i64 (lostS ld)] := by rw [hw9]; exact Blk.new _ _ _
          have HB9 := Lib.hid hb9
          have HS9 := Lib.hid (HS7.out.same (k8.trans k9))
          have hO9 : OwnI w9 w.heap.size (.slice a8 ld.length c8) ld := OwnS.keeps (S := fun _ => False) (OwnS.moreS hO8 HS7.out.keeps.size) k9 (fun _ _ _ _ => id)
          have HO9 := Lib.hid hO9
          have hO6 : OwnI w9 w.heap.size (.slice av6 al6.length cv6) al6 := OwnS.keeps (S := fun _ => False) HO7.out (k8.trans k9) (fun _ _ _ _ => id)
          have HA6 := Lib.hid hO6.slat_
          have HL9 := Lib.hid hO9.slat_.2.1
          have g0 := hb9.cell 0
          simp only [List.getElem?_toArray, List.getElem?_cons_zero] at g0
          obtain ⟨gb, hgb⟩ : ∃ gb, gb = w8.heap.size := ⟨_, rfl⟩
          rw [← hgb] at HB9 g0
          have HWI := Lib.hid (rwithin_true w9 a8 av6 ld.length al6.length c8 cv6 ld al6 HL9.out HA6.out.2.1 sure6 gone6.length HDL.out.1 (by have := HSU.out; omega) HDL.out.2 HA6.out.2.2.1 (by omega) HA6.out.2.2.2)
          rw [← hw9, ← hgb]
          have HGB := Lib.hid hgb
          clear hw9 k9 hb9 hO9 hO6 hO8 k8 hgb
          refine HWI.out.mono ?_
          rintro e w10 ⟨rfl, k10⟩
          have g1 := (HB9.out.keeps k10 id).cell 0
          simp only [List.getElem?_toArray, List.getElem?_cons_zero] at g1
          have HS10 := Lib.hid (HS9.out.same k10)
          have HO10 := Lib.hid (show OwnI w10 w.heap.size (.slice a8 ld.length c8) ld from OwnS.keeps (S := fun _ => False) HO9.out k10 (fun _ _ _ _ => id))
          clear k10 g0 HWI HA6 HL9
          go_wp2_with fail
          exact ⟨⟨i + 1, by omega, by go_num, L7, nn6, ld, G6, cur7, HS10.out, HO10.out, HC7.out, by omega, hld48⟩, by simp [intOf]; omega⟩
      · go_wp2_with fail
        refine (HW.out _ HS0.out.keeps).mono ?_
        rintro e w1 ⟨rfl, k1⟩
        have HK1 := Lib.hid (HS0.out.keeps.trans k1)
        clear k1
        go_wp2_with fail
        go_ret
        exact ⟨rfl, HK1.out⟩
theorem restoreLives_walk (w : World) (m q : Int) (a : Option Addr) (n c : Nat) (l : List Life23) (hm : Lit.wf (.int .u8 m) = true) (hq : Lit.wf (.int .u8 q) = true) (hl : SlAt lifeR23 2 w a n l ∧ ∀ x ∈ l, x.good w) :
    Calls Tryz.prog 5 #[.int .u8 m, .int .u8 q, .slice a n c] w fun e w' => e = .returned (.bool true) ∧ Keeps (fun _ => False) w w' :=
  restoreLives_any w m q a n c l hm hq hl trivial
end Go.Proofs.YtdbnalocmjkncaaGreat
