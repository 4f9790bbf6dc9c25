/-
  record: Read and Scan.
-/
import Derived.Test.YtkmpdobojgiegaaGreatDoorQRecI
namespace Go.Proofs.YtkmpdobojgiegaaGreatDoor
open Go.RowKit

set_option maxRecDepth 100000 in
set_option maxHeartbeats 1000000 in
theorem read_any2 (w : World) (s : ByteArray) (hs : s.size ≤ 1073741824) : Calls Tryz.prog 251 #[.string s] w fun e w' => readEnd s.data.toList e ∧ Keeps (fun _ => False) w w' := by
  have hlen : s.data.toList.length = s.size := by simp
  obtain ⟨l, hl⟩ : ∃ l, l = s.data.toList := ⟨_, rfl⟩
  rw [← hl] at hlen ⊢
  obtain ⟨E, hE⟩ : ∃ E, E = readEnd l := ⟨_, rfl⟩
  rw [← hE]
  have HE := Lib.hid hE
  have HL := Lib.hid hl
  have HN := Lib.hid hlen
  have hno : ∀ c, c ≠ 0 → ¬ Whole l → E (.returned (.tuple #[.agg #[.int .i64 0, .int .i64 0, .string ⟨#[]⟩], .int .i64 0, .int .i64 c])) := fun c hc h => by rw [HE.out]; exact .inr ⟨h, c, hc, rfl⟩
  have HNO := Lib.hid hno
  clear hE hl hlen hno
  by_cases h0 : s.size = 0
  · obtain rfl : s = ⟨#[]⟩ := by apply ba_ext; exact List.eq_nil_of_length_eq_zero (by simpa using h0)
    have hw : ¬ Whole l := fun h => by have := h.all; have := HN.out; omega
    have HW := Lib.hid hw
    clear hw h0
    go_enter Tryz.func251, Tryz.ntmps251
    go_wp2_with fail
    try simp only [Exit.inBlock, Exit.then]
    refine ret_ctt rfl w.heap.size 136 _ _ rfl (Blk.new w _ _) Tryz.underlying136 rfl (by kernel_rfl) rfl ⟨?_, by (repeat (first | (with_reducible assumption) | (with_reducible exact Keeps.refl _ _) | refine Keeps.drew ?_ | refine Keeps.drewN ?_ _ | refine Keeps.setCell ?_ (by simp) _ | refine Keeps.setRow ?_ (by simp) _ | refine Keeps.alloc ?_ _))⟩
    exact HNO.out 13 (by decide) HW.out
  · have hget : ∀ (k : Nat) c, l[k]? = some c → ∀ h, s[k]'h = c := by
      intro k c hc h
      rw [HL.out] at hc
      rw [← (List.getElem?_eq_some_iff.1 hc).2]; rfl
    obtain ⟨c, hc⟩ : ∃ c, l[0]? = some c := ⟨_, List.getElem?_eq_getElem (by rw [HN.out]; omega)⟩
    have hsc := hget 0 c hc
    have HC := Lib.hid hc
    have HG := Lib.hid hget
    have hsne : s.toList.isEmpty = false := by
      rw [ByteArray.toList_eq, ← HL.out]
      cases hq : l with
      | nil => rw [hq] at HN; exact absurd HN.out.symm h0
      | cons a t => rfl
    clear hc hget
    by_cases h87 : c = 87
    · subst h87
      by_cases h10 : s.size < 10
      · have hw : ¬ Whole l := fun h => by have := h.all; have := HN.out; omega
        have HW := Lib.hid hw
        clear hw
        go_enter Tryz.func251, Tryz.ntmps251
        go_wp2_with fail
        try simp only [Exit.inBlock, Exit.then]
        refine ret_ctt rfl w.heap.size 136 _ _ rfl (Blk.new w _ _) Tryz.underlying136 rfl (by kernel_rfl) rfl ⟨?_, by (repeat (first | (with_reducible assumption) | (with_reducible exact Keeps.refl _ _) | refine Keeps.drew ?_ | refine Keeps.drewN ?_ _ | refine Keeps.setCell ?_ (by simp) _ | refine Keeps.setRow ?_ (by simp) _ | refine Keeps.alloc ?_ _))⟩
        exact HNO.out 13 (by decide) HW.out
      · obtain ⟨d, hd⟩ : ∃ d, l[1]? = some d := ⟨_, List.getElem?_eq_getElem (by rw [HN.out]; omega)⟩
        have hsd := HG.out 1 d hd
        have hdd : l.getD 1 0 = d := by rw [List.getD_eq_getElem?_getD, hd]; rfl
        have e6 : s.extract 2 8 = str ((l.drop 2).take 6) := by rw [ext_part, ← HL.out]
        obtain ⟨s6, hs6⟩ : ∃ s6, s6 = s.extract 2 8 := ⟨_, rfl⟩
        have hz6 : s6.size ≤ 6 := by rw [hs6, e6, str_size, List.length_take]; omega
        have hR6 := fun W => rectold_any W s6 hz6
        obtain ⟨tt, htt⟩ : ∃ tt, tt = unbe s6.data.toList := ⟨_, rfl⟩
        rw [← htt] at hR6
        have hta : tt = unbe ((l.drop 2).take 6) := by rw [htt, hs6, e6, str_list]
        have HR6 := Lib.hid hR6
        have h8 : (8 : Int) ≤ s.size := by omega
        have HTA := Lib.hid hta
        have HDD := Lib.hid hdd
        have hs6' := hs6.symm
        clear hR6 hta htt hd hdd e6 hs6
        go_enter Tryz.func251, Tryz.ntmps251
        go_wp2_with fail
        obtain ⟨w1, hw1⟩ : ∃ w1, w1 = w.alloc (.cells #[.int .i64 0, .int .i64 0, .string { data := #[] }] 136) := ⟨_, rfl⟩
        have HB1 := Lib.hid (show Blk w1 w.heap.size 136 _ by rw [hw1]; exact Blk.new w _ _)
        have HK1 := Lib.hid (show Keeps (fun _ => False) w w1 by rw [hw1]; (repeat (first | (with_reducible assumption) | (with_reducible exact Keeps.refl _ _) | refine Keeps.drew ?_ | refine Keeps.drewN ?_ _ | refine Keeps.setCell ?_ (by simp) _ | refine Keeps.setRow ?_ (by simp) _ | refine Keeps.alloc ?_ _)))
        rw [← hw1]
        have HZ1 := Lib.hid (show w1.heap.size = w.heap.size + 1 by rw [hw1]; simp)
        clear hw1
        have hwd : IntKind.i64.wrap (d.toNat : Int) = d.toNat := wrap_in (by omega) (by have := d.toNat_lt; omega)
        go_cut [5] (fun s5 wx => ∃ q : Nat, s5 = .pointer (some ⟨q, 0, none⟩) ∧ Hid (Blk wx q 136 #[.int .i64 d.toNat, .int .i64 tt, .string ⟨#[]⟩] ∧ w.heap.size < q ∧ Keeps (fun _ => False) w1 wx))
        case first =>
          go_region_held3 (fun w2 => Keeps (fun _ => False) w1 w2)
            ((repeat (first | (with_reducible assumption) | (with_reducible exact Keeps.refl _ _) | refine Keeps.drew ?_ | refine Keeps.drewN ?_ _ | refine Keeps.setCell ?_ (by simp) _ | refine Keeps.setRow ?_ (by simp) _ | refine Keeps.alloc ?_ _)))
            ((go_at_call 273; rename_i hk _ _; refine (HR6.out _).mono ?_; rintro e w3 ⟨rfl, hw3⟩; have k3 : Keeps (fun _ => False) _ w3 := Keeps.of_eq hw3; have kk : Keeps (fun _ => False) w1 w3 := hk.trans k3; have kz := kk.size; try (have bn := Blk.keeps (Blk.new w1 136 #[.int .i64 0, .int .i64 0, .string { data := #[] }]) k3.from_drew id; have be := bn.all3); clear hw3))
          all_goals (go_wp2_with fail; go_meet)
          all_goals
            refine ⟨_, rfl, Lib.hid ⟨?_, ?_, ?_⟩⟩
            · first
                | with_reducible exact (Blk.new w1 136 #[.int .i64 d.toNat, .int .i64 tt, .string { data := #[] }]).drew
                | with_reducible exact bn.setC3 _ _ _
            · have := HZ1.out; omega
            · first
                | with_reducible exact kk.setC3 (Nat.le_refl _) _ _ _
                | ((repeat (first | (with_reducible assumption) | (with_reducible exact Keeps.refl _ _) | refine Keeps.drew ?_ | refine Keeps.drewN ?_ _ | refine Keeps.setCell ?_ (by simp) _ | refine Keeps.setRow ?_ (by simp) _ | refine Keeps.alloc ?_ _)))
        case rest =>
          obtain ⟨q, rfl, HQ⟩ := hcut
          obtain ⟨⟨c0, c1, c2⟩, f0, f1, f2⟩ := HQ.out.1.all3
          have HK2 := Lib.hid (HK1.out.trans HQ.out.2.2)
          have hqs := HQ.out.2.1
          have hql := HQ.out.1.lt
          obtain ⟨kc, hkc⟩ : ∃ kc, kc = checkI 1 2 5 ⟨(d.toNat : Int), (tt : Int), ⟨#[]⟩⟩ := ⟨_, rfl⟩
          have hck := fun W => rcheck_any W ⟨(d.toNat : Int), (tt : Int), ⟨#[]⟩⟩
          rw [← hkc] at hck
          unfold itmV at hck
          have HCK := Lib.hid hck
          have HKC := Lib.hid hkc
          clear hck hkc
          have e2 : s.extract 8 10 = str ((l.drop 8).take 2) := by rw [ext_part, ← HL.out]
          obtain ⟨s2, hs2⟩ : ∃ s2, s2 = s.extract 8 10 := ⟨_, rfl⟩
          have hz2 : s2.size ≤ 2 := by rw [hs2, e2, str_size, List.length_take]; omega
          have hR2 := fun W => rectold_any W s2 (by omega)
          obtain ⟨n, hn⟩ : ∃ n, n = unbe s2.data.toList := ⟨_, rfl⟩
          rw [← hn] at hR2
          have hnk : gotK l = n := by rw [hn, hs2, e2, str_list]; rfl
          have hn16 : n ≤ 65536 := by rw [hn]; have := unbe_lt s2.data.toList; have e : s2.data.toList.length = s2.size := by simp
                                      have : 256 ^ s2.data.toList.length ≤ 256 ^ 2 := Nat.pow_le_pow_right (by omega) (by omega)
                                      omega
          have HR2 := Lib.hid hR2
          have HNK := Lib.hid hnk
          have hs2' := hs2.symm
          have h10' : (10 : Int) ≤ s.size := by omega
          clear hR2 hs2 hnk hn e2
          go_wp2_with (go_at_call 273; refine (HR2.out _).mono ?_; rintro e w4 ⟨rfl, hw⟩; obtain rfl : wc = w4 := hw.symm)
          refine (HCK.out _).mono ?_
          rintro e w3 ⟨rfl, k3⟩
          have HB3 := Lib.hid (HQ.out.1.keeps k3 id)
          have HK3 := Lib.hid (HK2.out.trans k3)
          have HR3 := Lib.hid ((HB1.out.keeps HQ.out.2.2 id).keeps k3 id)
          clear c0 c1 c2 f0 f1 f2 k3
          by_cases hk0 : kc = 0
          · subst hk0
            have hok0 : Itm.ok ⟨(d.toNat : Int), (tt : Int), ⟨#[]⟩⟩ := by
              by_cases hh : Itm.ok ⟨(d.toNat : Int), (tt : Int), ⟨#[]⟩⟩
              · exact hh
              · exact absurd HKC.out.symm (check_no (by decide) (by decide) (by decide) hh)
            have hgi : gotI l = ⟨(d.toNat : Int), (tt : Int), str ((l.drop 10).take n)⟩ := by unfold gotI; rw [HDD.out, ← HTA.out, HNK.out]
            have HGI := Lib.hid hgi
            have HOK := Lib.hid hok0
            clear hgi hok0
            by_cases hnb : 4096 < n
            · have HW := Lib.hid (show ¬ Whole l from fun h => by have := h.len; rw [HNK.out] at this; omega)
              obtain ⟨⟨z0, z1, z2⟩, g0, g1, g2⟩ := HR3.out.all3
              go_wp2_with fail
              try simp only [Exit.inBlock, Exit.then]
              refine ret_ctt rfl w.heap.size 136 _ _ rfl (HR3.out.setC3 _ _ _) Tryz.underlying136 rfl (by kernel_rfl) rfl ⟨?_, HK3.out.setC3 (by omega) _ _ _⟩
              exact HNO.out 5 (by decide) HW.out
            · by_cases hsz : s.size < 14 + n
              · have HW := Lib.hid (show ¬ Whole l from fun h => by have := h.all; rw [HNK.out, HN.out] at this; omega)
                obtain ⟨⟨z0, z1, z2⟩, g0, g1, g2⟩ := HR3.out.all3
                go_wp2_with fail
                try simp only [Exit.inBlock, Exit.then]
                refine ret_ctt rfl w.heap.size 136 _ _ rfl (HR3.out.setC3 _ _ _) Tryz.underlying136 rfl (by kernel_rfl) rfl ⟨?_, HK3.out.setC3 (by omega) _ _ _⟩
                exact HNO.out 13 (by decide) HW.out
              · have eb : s.extract 10 (10 + n) = str ((l.drop 10).take n) := by rw [ext_part, ← HL.out]; congr 2; omega
                obtain ⟨sb, hsb⟩ : ∃ sb, sb = s.extract 10 (10 + n) := ⟨_, rfl⟩
                have hxe : gotI l = ⟨(d.toNat : Int), (tt : Int), sb⟩ := by rw [HGI.out, hsb, eb]
                have ea : s.extract 0 (10 + n + 4) = str (l.take (10 + n + 4)) := by rw [ext_part, ← HL.out]; simp
                obtain ⟨sa, hsa⟩ : ∃ sa, sa = s.extract 0 (10 + n + 4) := ⟨_, rfl⟩
                have hza : sa.size = 10 + n + 4 := by rw [hsa, ea, str_size, List.length_take, HN.out]; omega
                have la : sa.data.toList = l.take (10 + n + 4) := by rw [hsa, ea, str_list]
                obtain ⟨b, hb⟩ : ∃ b, b = decide (unbe (sa.data.toList.drop (10 + n)) = sumP (sa.data.toList.take (10 + n))) := ⟨_, rfl⟩
                have hF := fun W => sumfits_any W sa (10 + n) hza (by omega) b hb
                have hiff : b = true ↔ Whole l := by
                  rw [hb, decide_eq_true_iff, la, List.drop_take, List.take_take, show 10 + n + 4 - (10 + n) = 4 by omega, show min (10 + n) (10 + n + 4) = 10 + n by omega]
                  constructor
                  · intro hh
                    have hk := HOK.out.1
                    have ht := HOK.out.2.1
                    simp only at hk ht
                    exact ⟨HC.out, by rw [HDD.out]; omega, by rw [← HTA.out]; omega, by rw [HNK.out]; omega, by rw [HNK.out, HN.out]; omega, by rw [HNK.out]; exact hh⟩
                  · intro hh
                    have := hh.sum
                    rwa [HNK.out] at this
                have HF := Lib.hid hF
                have HIF := Lib.hid hiff
                have HXE := Lib.hid hxe
                have hsb' : s.extract 10 (10 + n) = sb := hsb.symm
                have hsa' : s.extract 0 (10 + n + 4) = sa := hsa.symm
                have HBX := HB3
                have HRX := HR3
                have HKX := HK3
                obtain ⟨⟨c0, c1, c2⟩, f0, f1, f2⟩ := HB3.out.all3
                obtain ⟨⟨z0, z1, z2⟩, g0, g1, g2⟩ := HR3.out.all3
                clear hF hiff hxe hsb hsa eb ea hza la hb
                go_wp2_with fail
                refine (HF.out _).mono ?_
                rintro e w5 ⟨rfl, k5⟩
                have HBY := Lib.hid (HB3.out.keeps k5 id)
                have HRY := Lib.hid (HR3.out.keeps k5 id)
                have HKY := Lib.hid (HK3.out.trans k5)
                clear c0 c1 c2 f0 f1 f2 z0 z1 z2 g0 g1 g2 k5
                obtain ⟨⟨c0, c1, c2⟩, f0, f1, f2⟩ := HBY.out.all3
                obtain ⟨⟨z0, z1, z2⟩, g0, g1, g2⟩ := HRY.out.all3
                cases b with
                | true =>
                  have HW := Lib.hid (HIF.out.1 rfl)
                  go_wp2_with fail
                  try simp only [Exit.inBlock, Exit.then]
                  refine ret_ctt rfl w.heap.size 136 _ _ rfl (Blk.setC3 ((HRY.out).far (p := ⟨q, 2, none⟩) (by show w.heap.size ≠ q; omega) _) _ _ _) Tryz.underlying136 rfl (by kernel_rfl) rfl ⟨?_, (HKY.out.setNewC (by omega) _).setC3 (by omega) _ _ _⟩
                  rw [HE.out]
                  refine .inl ⟨HW.out, ?_⟩
                  rw [HXE.out, HNK.out, show 14 + n = 10 + n + 4 by omega]
                  rfl
                | false =>
                  have HW := Lib.hid (show ¬ Whole l from fun h => by have := HIF.out.2 h; cases this)
                  go_wp2_with fail
                  try simp only [Exit.inBlock, Exit.then]
                  refine ret_ctt rfl w.heap.size 136 _ _ rfl (HRY.out.setC3 _ _ _) Tryz.underlying136 rfl (by kernel_rfl) rfl ⟨?_, HKY.out.setC3 (by omega) _ _ _⟩
                  exact HNO.out 4 (by decide) HW.out
          · have hw : ¬ Whole l := fun h => hk0 (by
              rw [HKC.out]
              have hok := h.ok
              have hk1 := h.kind
              have ha1 := h.at_
              rw [HDD.out] at hk1
              rw [← HTA.out] at ha1
              exact check_ok (e1 := 1) (e2 := 2) (e3 := 5) (x := ⟨(d.toNat : Int), (tt : Int), ⟨#[]⟩⟩) ⟨⟨by show (1 : Int) ≤ d.toNat; omega, by show (d.toNat : Int) ≤ 15; omega⟩, ⟨by show (0 : Int) ≤ tt; omega, by show (tt : Int) ≤ 1099511627776; omega⟩, by show (0 : Nat) ≤ 4096; omega⟩)
            have HW := Lib.hid hw
            have bk0 : (kc == 0) = false := by rw [beq_eq_false_iff_ne]; exact hk0
            obtain ⟨⟨z0, z1, z2⟩, g0, g1, g2⟩ := HR3.out.all3
            clear hw
            go_wp2_with fail
            try simp only [Exit.inBlock, Exit.then]
            refine ret_ctt rfl w.heap.size 136 _ _ rfl (HR3.out.setC3 _ _ _) Tryz.underlying136 rfl (by kernel_rfl) rfl ⟨?_, HK3.out.setC3 (by omega) _ _ _⟩
            exact HNO.out _ hk0 HW.out
    · have hw : ¬ Whole l := fun h => by have := h.w; rw [HC.out] at this; exact h87 (Option.some.inj this)
      have b87 : ((c.toNat : Int) == 87) = false := by rw [beq_eq_false_iff_ne]; intro e; exact h87 (UInt8.toNat_inj.1 (by show c.toNat = 87; omega))
      have HW := Lib.hid hw
      clear hw h87
      go_enter Tryz.func251, Tryz.ntmps251
      go_wp2_with fail
      try simp only [Exit.inBlock, Exit.then]
      refine ret_ctt rfl w.heap.size 136 _ _ rfl (Blk.new w _ _) Tryz.underlying136 rfl (by kernel_rfl) rfl ⟨?_, by (repeat (first | (with_reducible assumption) | (with_reducible exact Keeps.refl _ _) | refine Keeps.drew ?_ | refine Keeps.drewN ?_ _ | refine Keeps.setCell ?_ (by simp) _ | refine Keeps.setRow ?_ (by simp) _ | refine Keeps.alloc ?_ _))⟩
      exact HNO.out 3 (by decide) HW.out
set_option maxRecDepth 100000 in
set_option maxHeartbeats 1000000 in
theorem scan_any2 (w : World) (s : ByteArray) (hs : s.size ≤ 1073741824) : Calls Tryz.prog 216 #[.string s] w fun e w' => (∃ v, e = .returned (.tuple #[v, .int .i64 (scanN s.data.toList : Nat)]) ∧ OwnI w' w.heap.size v (scanI s.data.toList)) ∧ Keeps (fun _ => False) w w' := by
  have hlen : s.data.toList.length = s.size := by simp
  obtain ⟨l, hl⟩ : ∃ l, l = s.data.toList := ⟨_, rfl⟩
  rw [← hl] at hlen ⊢
  have HL := Lib.hid hl
  have HN := Lib.hid hlen
  clear hl hlen
  go_enter Tryz.func216, Tryz.ntmps216
  go_wp2_with fail
  go_step3
  go_wp2_with fail
  go_step3
  go_wp2_with fail
  go_loopw [4, 5] (fun u4 u5 wr => ∃ (at_ : Nat) (xs : List Itm), u5 = .int .i64 at_ ∧ at_ ≤ s.size ∧ Hid (OwnI wr w.heap.size u4 xs ∧ xs ++ scanI (l.drop at_) = scanI l ∧ at_ = (flatR xs).length ∧ 14 * xs.length ≤ at_ ∧ Keeps (fun _ => False) w wr)) (fun _ u5 _ => s.size - (intOf u5).toNat)
  case atStart => exact ⟨0, [], rfl, Nat.zero_le _, Lib.hid ⟨OwnS.none_, by simp, rfl, Nat.le_refl _, Keeps.refl _ _⟩⟩
  case round =>
    obtain ⟨at_, xs, rfl, hat, HI⟩ := hrel
    rename World => wr
    obtain ⟨a4, c4, rfl⟩ := HI.out.1.sl
    have hlt : at_ ≤ s.size := hat
    · have hex : s.extract at_ s.size = str (l.drop at_) := by rw [ext_part, ← HL.out, List.take_of_length_le (by rw [List.length_drop, HN.out]; omega)]
      obtain ⟨sx, hsx⟩ : ∃ sx, sx = s.extract at_ s.size := ⟨_, rfl⟩
      have hsz : sx.size ≤ 1073741824 := by rw [hsx, hex, str_size, List.length_drop]; have := HN.out; omega
      have hr := fun W => read_any2 W sx hsz
      have e : sx.data.toList = l.drop at_ := by rw [hsx, hex, str_list]
      rw [e] at hr
      have HR := Lib.hid hr
      have hsx' := hsx.symm
      clear hr e hex hsx
      go_wp2_with fail
      refine (HR.out _).mono ?_
      rintro e w3 ⟨he, k3⟩
      have HK3 := Lib.hid k3
      have HOW := Lib.hid (OwnS.keeps (S := fun _ => False) HI.out.1 k3 (fun _ _ _ _ => id))
      clear k3
      rcases he with ⟨hW, rfl⟩ | ⟨hW, c, hc, rfl⟩
      · have hsm := scan_more hW
        have hall := hW.all
        have hbd := hW.body
        rw [List.length_drop, HN.out] at hall
        obtain ⟨x, hx⟩ : ∃ x, x = gotI (l.drop at_) := ⟨_, rfl⟩
        obtain ⟨n, hn⟩ : ∃ n, n = 14 + gotK (l.drop at_) := ⟨_, rfl⟩
        have hrl := recP_len x
        rw [← hx] at hbd
        rw [hbd, ← hn] at hrl
        rw [← hx, ← hn, List.drop_drop] at hsm
        rw [← hx, ← hn]
        have HSM := Lib.hid hsm
        have HRL := Lib.hid hrl
        have hn14 : 14 ≤ n := by omega
        have hna : at_ + n ≤ s.size := by omega
        have h14 := HI.out.2.2.2.1
        have hxs : xs.length ≤ 1073741824 := by omega
        clear hW hsm hall hbd hx hn hrl h14
        obtain ⟨k0, t0, b0⟩ := x
        unfold itmV
        go_wp2_with (with_reducible show wpList _ _ _ (⟨some 22, _, _, _, _, _⟩ :: _) _ _; go_must (refine wpList_append_st itmR 3 itmR_len (by decide) rfl (.tmp 19) (.tmp 21) 67 rfl w.heap.size 136 (.agg #[.int .i64 0, .int .i64 0, .string ⟨#[]⟩]) 32 Tryz.underlying67 (by kernel_rfl) rfl (by omega) (.slice a4 xs.length c4) xs rfl (OwnS.keeps (S := fun _ => False) HOW.out (((Keeps.refl _ _).alloc _).alloc _) (fun _ _ _ _ => id)) (w3.heap.size + 1) 1 ⟨k0, t0, b0⟩ rfl (Blk.newB2 _ _ _ _) (itmR_ones _) (by omega) (by simp; have := (HI.out.2.2.2.2.trans HK3.out).size; omega) ?_; intro v7 w7 O7 k7))
        refine ⟨⟨at_ + n, xs ++ [⟨k0, t0, b0⟩], by rw [Int.natCast_add], hna, Lib.hid ⟨O7, ?_, ?_, ?_, ?_⟩⟩, by simp [intOf]; omega⟩
        · rw [List.append_assoc, List.singleton_append, ← HSM.out]; exact HI.out.2.1
        · have h := HI.out.2.2.1
          rw [flatR_append, List.length_append, ← h, flatR_cons, List.length_append, HRL.out]
          simp [flatR]
        · have h := HI.out.2.2.2.1
          rw [List.length_append]
          simp only [List.length_cons, List.length_nil]
          omega
        · exact Keeps.and_ (((HI.out.2.2.2.2.trans HK3.out).alloc _).alloc _) k7 (fun i hi h => absurd h.1 (by omega))
      · have hsn := scan_no hW
        have he := HI.out.2.1
        rw [hsn, List.append_nil] at he
        have hn := HI.out.2.2.1
        rw [he] at hn
        have HE := Lib.hid he
        have HN2 := Lib.hid hn
        have bc : (c == 0) = false := by rw [beq_eq_false_iff_ne]; exact hc
        clear hW hsn he hn hc
        go_wp2_with fail
        (try rw [Exit.noGoto_ret])
        go_ret2
        refine ⟨⟨_, by rw [HN2.out]; rfl, ?_⟩, ?_⟩
        · rw [← HE.out]
          exact OwnS.keeps (S := fun _ => False) HOW.out ((Keeps.refl _ _).alloc _) (fun _ _ _ _ => id)
        · exact (HI.out.2.2.2.2.trans HK3.out).alloc _
end Go.Proofs.YtkmpdobojgiegaaGreatDoor
