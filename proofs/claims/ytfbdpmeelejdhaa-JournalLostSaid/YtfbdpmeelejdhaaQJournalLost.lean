/-
  JournalLost: of the items that were not taken as many are told as there were.
-/
import Derived.Test.YtfbdpmeelejdhaaQLst
import Derived.Test.YtfbdpmeelejdhaaQWorks22
import Derived.Test.YtfbdpmeelejdhaaQOps22
import Derived.Deep.DeepCutAuto
import Derived.Deep.CutBlock
namespace Go.Proofs.Ytfbdpmeelejdhaa
open Go.RowKit Go.Maps

/-- an act's cells, in whatever world the old blocks are as they were -/
theorem op22_of_ {w : World} {a : Option Addr} {n : Nat} {l : List Op22} (h : SlAt opR22 5 w a n l) {i : Nat} (hi : i < n) : ∃ x b off, l[i]? = some x ∧ a = some ⟨b, off, none⟩ ∧ b < w.heap.size ∧ ∀ W, Keeps (fun _ => False) w W →
    (W.cell? ⟨b, off + i * 5, none⟩ = some (.int .u8 x.kind) ∧ W.cell? ⟨b, off + i * 5 + 1, none⟩ = some (.int .i64 x.x.kind) ∧ W.cell? ⟨b, off + i * 5 + 2, none⟩ = some (.int .i64 x.x.at_) ∧ W.cell? ⟨b, off + i * 5 + 3, none⟩ = some (.string x.x.body) ∧ W.cell? ⟨b, off + i * 5 + 4, none⟩ = some (.int .u8 x.n)) := by
  obtain ⟨x, hx⟩ : ∃ x, l[i]? = some x := ⟨_, List.getElem?_eq_getElem (by rw [h.1]; exact hi)⟩
  obtain ⟨b, off, ha, hb, hc⟩ := h.2 (by omega)
  have hh : ∀ W, Keeps (fun _ => False) w W → ∀ j v, (opR22 x)[j]? = some v → W.cell? ⟨b, off + i * 5 + j, none⟩ = some v := fun W k j v hj => (World.cell?_of_block (w := w) (k.block b hb id)).trans (hc i x j v hx hj)
  exact ⟨x, b, off, hx, ha, hb, fun W k => ⟨hh W k 0 _ rfl, hh W k 1 _ rfl, hh W k 2 _ rfl, hh W k 3 _ rfl, hh W k 4 _ rfl⟩⟩
set_option maxRecDepth 100000 in
set_option maxHeartbeats 2000000 in
theorem journalLost_any (w : World) (q : Int) (a : Option Addr) (n c : Nat) (l : List Op22) (hq : Lit.wf (.int .u8 q) = true) (hl : SlAt opR22 5 w a n l ∧ ∀ x ∈ l, x.good) (he : Ety w) :
    Calls Try.prog 3 #[.int .u8 q, .slice a n c] w fun e w' => e = .returned (.bool true) ∧ Keeps (fun _ => False) w w' := by
  have hq : 0 ≤ q ∧ q ≤ 255 := by simpa [Lit.wf, IntKind.min, IntKind.max, IntKind.signed, IntKind.bits] using hq
  obtain ⟨q0, rfl⟩ := Int.eq_ofNat_of_zero_le hq.1
  have hq2 : q0 ≤ 255 := by omega
  have HW := Lib.hid (fun W (k : Keeps (fun _ => False) w W) => works22 W (ety_keeps he k (fun _ _ => id)))
  have HL := Lib.hid hl
  have HE := Lib.hid he
  clear hl he hq
  by_cases hg : 60 < n
  · have hg2 : (60 : Int) < n := by omega
    clear hg
    go_enter Try.func3, Try.ntmps3
    go_wp2_with fail
    refine (HW.out _ (Keeps.refl _ _)).mono ?_
    rintro e w1 ⟨rfl, k1⟩
    have HK1 := Lib.hid k1
    clear k1
    go_wp2_with fail
    go_ret
    exact ⟨rfl, HK1.out⟩
  · have hn60 : ¬ (60 : Int) < n := by omega
    have hnn : n ≤ 60 := by omega
    clear hg
    obtain ⟨size, hsz0⟩ : ∃ size, size = 64 + q0 := ⟨_, rfl⟩
    have hsz1 : 64 ≤ size ∧ size ≤ 1048576 := by omega
    have hszi : (64 : Int) + (q0 : Int) = (size : Int) := by omega
    clear hsz0
    go_enter Try.func3, Try.ntmps3
    go_wp2_with fail
    refine (snew_ok HE.out (Keeps.refl _ _) (by decide) (by decide)).mono ?_
    rintro e w1 ⟨s, M, rfl, S1, k1⟩
    have HS1 := Lib.hid S1
    clear S1 k1
    go_wp2_with fail
    refine (jnew HS1.out tLog (by decide) 16 size (by decide) hsz1).mono ?_
    rintro e w2 ⟨⟨jb, rfl, J2⟩, k2⟩
    have HJ2 := Lib.hid J2
    clear J2 k2 HS1 hszi
    go_wp2_with fail
    go_loopw [9, 10, 11] (fun u9 u10 u11 wr => ∃ (i refused told : Nat), i ≤ n ∧ u11 = .int .i64 i ∧ u9 = .int .i64 refused ∧ u10 = .int .i64 told ∧ refused ≤ 60 ∧ told ≤ 60 ∧ Hid (∃ al bad L nn rest lost gone G cur, Lst w wr s M jb 3000 16 size i al bad L nn rest lost gone G cur refused told)) (fun _ _ u11 _ => n - (intOf u11).toNat)
    case atStart => exact ⟨0, 0, 0, Nat.zero_le _, rfl, rfl, rfl, by omega, by omega, Lib.hid ⟨[], 0, [], 0, false, 0, [], [], none, ⟨HJ2.out, Log.none_ (by decide), by omega, Nat.zero_le _, fun h => absurd h (by omega), rfl, by omega, by simp⟩⟩⟩
    case round =>
      obtain ⟨i, refused, told, hin, rfl, rfl, rfl, hrf, htd, al, bad, L, nn, rest, lost, gone, G, cur, HT0⟩ := hrel
      rename World => wr
      have HT := Lib.hid HT0
      have hal := HT0.le
      have hnn2 := HT0.n_le
      have hre1 := HT0.ref.1
      have hre2 := HT0.ref.2
      have HREF := Lib.hid hre1
      have hll : lost ≤ 60 := by omega
      have htl : told + lost ≤ 60 := by omega
      have HTL := Lib.hid htl
      clear HT0 hre1 htl
      by_cases hlt : i < n
      · obtain ⟨x, b, off, hx, rfl, hb, hc⟩ := op22_of_ HL.out.1 hlt
        have hgd := HL.out.2 x (List.mem_of_getElem? hx)
        have HGD := Lib.hid hgd
        have HC := Lib.hid hc
        obtain ⟨o0, o1, o2, o3, o4⟩ := hc wr HT.out.jour.sto.keeps
        have HF := Lib.hid (fun W => fine_any W x.x hgd.2.1)
        have hrfi : refused ≤ i := hre2
        clear hx hc hgd hre2
        go_wp2_with fail
        refine (HF.out _).mono ?_
        obtain ⟨y, hy⟩ : ∃ y, y = fineI x.x := ⟨_, rfl⟩
        have hyo := fineI_ok x.x
        have hgw := gapW_fine x.x
        have hgk := gapOk_fine x.x
        rw [← hy] at hyo hgw hgk ⊢
        have HYO := Lib.hid hyo
        have HGW := Lib.hid hgw
        have HGK := Lib.hid hgk
        clear hy hyo HF hgw hgk
        obtain ⟨yk, yt, yb⟩ := y
        unfold itmV
        rintro e w3 ⟨rfl, k3⟩
        have H3 := Lib.hid (HT.out.same k3)
        obtain ⟨o0, o1, o2, o3, o4⟩ := HC.out w3 H3.out.jour.sto.keeps
        obtain ⟨p0, -, -, -, -⟩ := HC.out (w3.alloc (.cells #[.int .i64 yk, .int .i64 yt, .string yb] 34)) (H3.out.jour.sto.keeps.alloc _)
        clear k3 o0 o1 o2 o3 o4
        go_upto_block 2 with (fail)
        obtain ⟨wo, hwo⟩ : ∃ wo, wo = w3.alloc (.cells #[.int .i64 yk, .int .i64 yt, .string yb] 34) := ⟨_, rfl⟩
        rw [← hwo] at p0 ⊢
        obtain ⟨xb, hxb⟩ : ∃ xb, xb = w3.heap.size := ⟨_, rfl⟩
        rw [← hxb]
        have HX := Lib.hid (show Blk wo xb 34 #[.int .i64 yk, .int .i64 yt, .string yb] by rw [hwo, hxb]; exact Blk.new _ _ _)
        have HO := Lib.hid (H3.out.same (show Keeps (fun _ => False) w3 wo by rw [hwo]; (repeat (first | (with_reducible assumption) | (with_reducible exact Keeps.refl _ _) | refine Keeps.drew ?_ | refine Keeps.drewN ?_ _ | refine Keeps.setCell ?_ (by simp) _ | refine Keeps.setRow ?_ (by simp) _ | refine Keeps.alloc ?_ _))))
        clear hwo hxb H3 p0
        go_cut [9, 10] (fun s9 s10 wx => ∃ refused' told' : Nat, s9 = .int .i64 refused' ∧ s10 = .int .i64 told' ∧ Hid (∃ al bad L nn rest lost gone G cur, Lst w wx s M jb 3000 16 size (i + 1) al bad L nn rest lost gone G cur refused' told'))
        case first =>
          obtain ⟨c0, c1, c2⟩ := HX.out.cells3
          rcases (show x.kind % 8 = 4 ∨ x.kind % 8 = 5 ∨ x.kind % 8 = 6 ∨ (x.kind % 8 ≠ 4 ∧ x.kind % 8 ≠ 5 ∧ x.kind % 8 ≠ 6) from by omega) with h7 | h7 | h7 | ⟨h4, h5, h6⟩
          · as_aux_lemma =>
            have e4 : ((x.kind : Int) % 8 == 4) = true := by rw [beq_iff_eq]; omega
            clear h7
            go_wp2_with fail
            refine (jsync HO.out.jour (by omega)).mono ?_
            rintro e w4 (⟨L4, rfl, hr, hx4, J4, hl4, k4⟩ | ⟨L4, rfl, hr, hx4, J4, hl4, k4⟩ | ⟨L4, rfl, hr, J4, hl4, k4⟩)
            · obtain ⟨cur4, T4⟩ := HO.out.sync hx4 J4 hl4 (Nat.le_refl _) hr
              have HT4 := Lib.hid T4
              clear hx4 J4 hl4 k4 T4
              go_wp2_with fail
              go_meet
              case rel => exact ⟨refused, told, rfl, rfl, Lib.hid ⟨_, _, _, _, _, _, _, _, _, HT4.out⟩⟩
            · have HT4 := Lib.hid (HO.out.fell hx4 J4 hl4 (Nat.le_refl _))
              clear hx4 J4 hl4 k4
              go_wp2_with fail
              go_meet
              case rel => exact ⟨refused, told, rfl, rfl, Lib.hid ⟨_, _, _, _, _, _, _, _, _, HT4.out⟩⟩
            · have HT4 := Lib.hid (HO.out.idle J4 hl4 (Nat.le_refl _) (fun _ => rfl))
              clear J4 hl4 k4
              go_wp2_with fail
              go_meet
              case rel => exact ⟨refused, told, rfl, rfl, Lib.hid ⟨_, _, _, _, _, _, _, _, _, HT4.out⟩⟩
          · as_aux_lemma =>
            have e4 : ((x.kind : Int) % 8 == 4) = false := by rw [beq_eq_false_iff_ne]; omega
            have e5 : ((x.kind : Int) % 8 == 5) = true := by rw [beq_iff_eq]; omega
            clear h7
            go_wp2_with fail
            refine (jlost HO.out.jour).mono ?_
            rintro e w4 ⟨rfl, hw⟩
            obtain rfl : wo = w4 := hw.symm
            go_wp2_with fail
            obtain ⟨R, hR⟩ : ∃ R, R = putP 3000 tLog 16 size bad (L.map SRep.f) (str (recP (gapI yt lost))) := ⟨_, rfl⟩
            have hre := jreopen HO.out.jour (by omega) (by decide) yt HYO.out.2.1
            rw [← hR] at hre
            have hgo := gapI_ok (now := yt) (lost := lost) HYO.out.2.1 (by omega)
            have hpt := HO.out.put hgo R hR
            refine hre.mono ?_
            clear hre
            rintro e w4 (⟨L4, rfl, hr, h0, hR0, J4, hl4, k4⟩ | ⟨L4, rfl, hr, h0, hR0, J4, hl4, k4⟩ | ⟨L4, rfl, hr, J4, hl4, k4⟩)
            · rcases hpt with ⟨-, gone4, G4, cur4, hL4⟩ | ⟨hne, -⟩
              · have HT4 := Lib.hid (HO.out.took J4 (hl4 ▸ hL4) (Nat.le_refl _) (gapW_gap (by omega)) (gapOk_gap (by omega)))
                clear hR0 J4 hl4 k4 hL4 hgo hR
                go_wp2_with fail
                go_meet
                case rel => exact ⟨refused, told + lost, rfl, rfl, Lib.hid ⟨_, _, _, _, _, _, _, _, _, HT4.out⟩⟩
              · exact absurd hR0 hne
            · rcases hpt with ⟨hne, -⟩ | ⟨-, gone4, G4, cur4, hL4⟩
              · exact absurd hne hR0
              · have HT4 := Lib.hid (HO.out.held J4 (hl4 ▸ hL4) (Nat.le_refl _))
                clear hR0 J4 hl4 k4 hL4 hgo hR
                go_wp2_with fail
                go_meet
                case rel => exact ⟨refused, told, rfl, rfl, Lib.hid ⟨_, _, _, _, _, _, _, _, _, HT4.out⟩⟩
            · have hl0 : lost = 0 := by
                rcases Nat.eq_zero_or_pos lost with h0 | h0
                · exact h0
                · exact absurd ⟨HO.out.lr h0, h0⟩ hr
              clear hpt hgo hR hr
              subst hl0
              have HT4 := Lib.hid (HO.out.idle J4 hl4 (Nat.le_refl _) (fun h => absurd h (by omega)))
              clear J4 hl4 k4
              go_wp2_with fail
              go_meet
              case rel => exact ⟨refused, told, rfl, by first | rfl | (simp), Lib.hid ⟨_, _, _, _, _, _, _, _, _, HT4.out⟩⟩
          · as_aux_lemma =>
            have e4 : ((x.kind : Int) % 8 == 4) = false := by rw [beq_eq_false_iff_ne]; omega
            have e5 : ((x.kind : Int) % 8 == 5) = false := by rw [beq_eq_false_iff_ne]; omega
            have e6 : ((x.kind : Int) % 8 == 6) = true := by rw [beq_iff_eq]; omega
            obtain ⟨p0, -, -, -, p4⟩ := HC.out wo HO.out.jour.sto.keeps
            clear h7
            go_wp2_with fail
            refine (jfail HO.out.jour _ (by omega)).mono ?_
            rintro e w4 ⟨L4, rfl, J4, hl4, k4⟩
            have HT4 := Lib.hid (HO.out.idle J4 hl4 (by omega) HO.out.lr)
            clear J4 hl4 k4
            go_wp2_with fail
            go_meet
            case rel => exact ⟨refused, told, rfl, rfl, Lib.hid ⟨_, _, _, _, _, _, _, _, _, HT4.out⟩⟩
          · as_aux_lemma =>
            have e4 : ((x.kind : Int) % 8 == 4) = false := by rw [beq_eq_false_iff_ne]; omega
            have e5 : ((x.kind : Int) % 8 == 5) = false := by rw [beq_eq_false_iff_ne]; omega
            have e6 : ((x.kind : Int) % 8 == 6) = false := by rw [beq_eq_false_iff_ne]; omega
            clear h4 h5 h6
            obtain ⟨R, hR⟩ : ∃ R, R = putP 3000 tLog 16 size bad (L.map SRep.f) (str (recP ⟨yk, yt, yb⟩)) := ⟨_, rfl⟩
            have hre := jadd HO.out.jour (by omega) (by decide) (by omega) ⟨yk, yt, yb⟩ HYO.out
            rw [← hR] at hre
            have hpt := HO.out.put HYO.out R hR
            have HRE := Lib.hid hre
            have HPT := Lib.hid hpt
            clear hre hpt hR
            unfold itmV at HRE
            go_wp2_with fail
            refine HRE.out.mono ?_
            rintro e w4 (⟨L4, rfl, hr, hR0, J4, hl4, k4⟩ | ⟨L4, rfl, hr, hR0, J4, hl4, k4⟩ | ⟨L4, rfl, hr, J4, hl4, k4⟩)
            · rcases HPT.out with ⟨-, gone4, G4, cur4, hL4⟩ | ⟨hne, -⟩
              · have hl0 : lost = 0 := by
                  rcases Nat.eq_zero_or_pos lost with h0 | h0
                  · exact h0
                  · have := HO.out.lr h0; rw [hr] at this; cases this
                subst hl0
                have HT4 := Lib.hid (HO.out.took J4 (hl4 ▸ hL4) (Nat.le_refl _) HGW.out HGK.out)
                clear hR0 J4 hl4 k4 hL4
                go_wp2_with fail
                go_meet
                case rel => exact ⟨refused, told, rfl, rfl, Lib.hid ⟨_, _, _, _, _, _, _, _, _, HT4.out⟩⟩
              · exact absurd hR0 hne
            · rcases HPT.out with ⟨hne, -⟩ | ⟨-, gone4, G4, cur4, hL4⟩
              · exact absurd hne hR0
              · have HT4 := Lib.hid (HO.out.lost_ J4 (hl4 ▸ hL4) (Nat.le_refl _))
                clear hR0 J4 hl4 k4 hL4
                go_wp2_with fail
                go_meet
                case rel => exact ⟨refused + 1, told, rfl, rfl, Lib.hid ⟨_, _, _, _, _, _, _, _, _, HT4.out⟩⟩
            · have HT4 := Lib.hid (HO.out.lost_ J4 (hl4 ▸ HO.out.log) (Nat.le_refl _))
              clear J4 hl4 k4
              go_wp2_with fail
              go_meet
              case rel => exact ⟨refused + 1, told, rfl, rfl, Lib.hid ⟨_, _, _, _, _, _, _, _, _, HT4.out⟩⟩
        case rest =>
          obtain ⟨refused', told', rfl, rfl, HQ⟩ := hcut
          obtain ⟨al', bad', L', nn', rest', lost', gone', G', cur', T'⟩ := HQ.out
          have HT := Lib.hid T'
          have hr1 := T'.ref.1
          have hr2 := T'.ref.2
          have hlr := T'.lr
          have HR1 := Lib.hid hr1
          have hb1 : told' + lost' ≤ 60 := by omega
          have hb2 : refused' ≤ 60 := by omega
          have hcmp : ((refused' : Int) != (told' : Int) + (lost' : Int)) = false := by rw [bne_eq_false_iff_eq]; omega
          have hcmp2 : ((refused' : Int) != IntKind.i64.wrap ((told' : Int) + (lost' : Int))) = false := by rw [wrap_in (by omega) (by omega)]; exact hcmp
          have HLR := Lib.hid hlr
          clear T' HO HX HC HYO HGD hr1 hlr
          rcases Nat.eq_zero_or_pos lost' with hl0 | hl0
          all_goals
            first
              | (have hl1 : ¬ (0 : Int) < lost' := by omega)
              | (have hl1 : (0 : Int) < lost' := by omega
                 have hre := HLR.out hl0
                 subst hre)
            clear hl0
            go_wp2_with (first | (go_at_call 9; refine (jlost HT.out.jour).mono ?_; rintro e w9 ⟨rfl, hw⟩; obtain rfl : wc = w9 := hw.symm) | (go_at_call 13; refine (jrests HT.out.jour).mono ?_; rintro e w9 ⟨rfl, hw⟩; obtain rfl : wc = w9 := hw.symm))
            exact ⟨⟨i + 1, refused', told', by omega, by go_num, rfl, rfl, hb2, by omega, _, _, _, _, _, _, _, _, _, HT.out⟩, by simp [intOf]; omega⟩
      · have hki : heldP 16 = 16 := by decide
        have HKI := Lib.hid hki
        clear hki
        go_wp2_with fail
        refine (gall_any HT.out.jour.sto tLog 16 (by decide)).mono ?_
        rw [HKI.out]
        rintro e w5 ⟨⟨v5, rfl, hO5⟩, k5⟩
        obtain ⟨a5, c5, rfl⟩ := hO5.sl'
        obtain ⟨hn5, hs5⟩ := slat_own hO5
        have hz5 := sizes_all HT.out.jour.sto tLog 16
        have hlen5 := allP_len (L.map SRep.f) tLog 16
        have hrd := HT.out.log.load
        have hmo := HT.out.log.most
        have HT5 := Lib.hid (HT.out.same k5)
        have HGA := Lib.hid (fun W (kk : Keeps (fun _ => False) w5 W) => gall_any (HT5.out.same kk).jour.sto tLog 16 (by decide))
        rw [HKI.out] at HGA
        obtain ⟨ds, hds⟩ : ∃ ds, ds = allP (L.map SRep.f) tLog 16 := ⟨_, rfl⟩
        rw [← hds] at hs5 hz5 hlen5 hrd hmo HGA ⊢
        rw [List.length_map]
        have HRD := Lib.hid hrd
        have HMO := Lib.hid hmo
        have HLD := Lib.hid (rload_any w5 a5 ds.length c5 ds hs5 (by omega) hz5)
        clear hO5 hn5 hs5 hz5 hlen5 hrd hmo hds k5 HT
        go_wp2_with fail
        refine HLD.out.mono ?_
        rintro e w6 ⟨⟨v6, rfl, hO6⟩, k6⟩
        obtain ⟨a6, c6, rfl⟩ := hO6.sl
        have HS6 := Lib.hid hO6.slat_.2.1
        have HK6 := Lib.hid k6
        obtain ⟨ld, hld⟩ : ∃ ld, ld = loadP ds := ⟨_, rfl⟩
        rw [← hld] at HS6 HRD ⊢
        clear hO6 k6 hld HLD
        go_wp2_with fail
        refine (HGA.out w6 HK6.out).mono ?_
        rintro e w7 ⟨⟨v7, rfl, hO7⟩, k7⟩
        obtain ⟨a7, c7, rfl⟩ := hO7.sl'
        rw [List.length_map]
        have HK7 := Lib.hid ((HT5.out.jour.sto.keeps.trans HK6.out).trans k7)
        have HS7 := Lib.hid (HS6.out.keeps k7 (fun _ _ => id))
        clear hO7 k7
        by_cases h15 : 15 ≤ ds.length
        · have h15i : (15 : Int) ≤ ds.length := by omega
          clear h15
          go_wp2_with fail
          refine (HW.out _ HK7.out).mono ?_
          rintro e w8 ⟨rfl, k8⟩
          have HK8 := Lib.hid (HK7.out.trans k8)
          clear k8
          go_wp2_with fail
          go_ret
          exact ⟨rfl, HK8.out⟩
        · have h15i : ¬ (15 : Int) ≤ ds.length := by omega
          have hge : gone = [] := by
            rcases HMO.out with hh | hh
            · exact hh
            · omega
          have hal2 : al = ld := by have := HRD.out; rw [hge, List.nil_append] at this; exact this
          have hsum : gapSum ld = told := by rw [← hal2]; exact HT5.out.told_.symm
          have hgp : ∀ x ∈ ld, GapOk x := by rw [← hal2]; exact HT5.out.gaps
          have hldl : ld.length ≤ 60 := by rw [← hal2]; omega
          have HSUM := Lib.hid hsum
          have HGP := Lib.hid hgp
          clear h15 hge hal2 hsum hgp
          go_wp2_with fail
          go_loopw [14, 16] (fun u14 u16 wx => ∃ i g : Nat, i ≤ ld.length ∧ u16 = .int .i64 i ∧ u14 = .int .i64 g ∧ g ≤ 60 ∧ Hid (g = gapSum (ld.take i) ∧ Keeps (fun _ => False) w7 wx)) (fun _ u16 _ => ld.length - (intOf u16).toNat)
          case atStart => exact ⟨0, 0, Nat.zero_le _, rfl, rfl, by omega, Lib.hid ⟨rfl, Keeps.refl _ _⟩⟩
          case round =>
            obtain ⟨i', g, hi', rfl, rfl, hg60, HI⟩ := hrel
            rename World => wx
            by_cases hlt2 : i' < ld.length
            · obtain ⟨x, hx⟩ : ∃ x, ld[i']? = some x := ⟨_, List.getElem?_eq_getElem hlt2⟩
              obtain ⟨b6, off6, rfl, _, hc6⟩ := itm_at HS7.out hx
              obtain ⟨x0, x1, x2⟩ := hc6 _ HI.out.2
              have hgs := gap_take hx
              rw [← HI.out.1] at hgs
              have hgle := gapSum_le (ld.take (i' + 1)) (ld.drop (i' + 1))
              rw [List.take_append_drop, HSUM.out, hgs] at hgle
              have hok := HGP.out x (List.mem_of_getElem? hx)
              have HGS := Lib.hid hgs
              by_cases hk3 : x.kind = 3
              · obtain ⟨mm, hmm, hbd⟩ := hok hk3
                have hgw : gapW x = mm := by
                  unfold gapW
                  rw [if_pos hk3, hbd, str_list, (tick_dec (n := mm) (by omega)).2]
                  rfl
                have hrr := fun W => r2read_any W x.body (by rw [hbd, str_size]; have := dec_le (n := (mm : Int)) (by omega) (by omega); omega)
                rw [hbd, str_list, tickV_dec (by omega), ← hbd] at hrr
                have HRR := Lib.hid hrr
                have hkb : (x.kind == 3) = true := by rw [beq_iff_eq]; exact hk3
                have hbnd : g + mm ≤ 60 := by omega
                have HGW := Lib.hid hgw
                clear hok hbd hgw hrr hx hc6 hgs hgle
                obtain ⟨xk, xt, xb⟩ := x
                simp only at hk3 x0 x1 x2 hkb
                subst hk3
                go_wp2_with fail
                refine (HRR.out _).mono ?_
                rintro e w9 ⟨rfl, k9⟩
                have HK9 := Lib.hid (HI.out.2.trans k9)
                clear k9
                go_wp2_with fail
                exact ⟨⟨i' + 1, g + mm, by omega, by go_num, by go_num, hbnd, by have := HGS.out; rw [HGW.out] at this; exact this.symm, HK9.out⟩, by simp [intOf]; omega⟩
              · have hgw : gapW x = 0 := by unfold gapW; rw [if_neg hk3]
                have HGW := Lib.hid hgw
                have hkb : (x.kind == 3) = false := by rw [beq_eq_false_iff_ne]; exact hk3
                clear hok hgw hx hc6 hgs hgle hk3
                go_wp2_with fail
                exact ⟨⟨i' + 1, g, by omega, by go_num, rfl, hg60, by have := HGS.out; rw [HGW.out] at this; exact this.symm, HI.out.2⟩, by simp [intOf]; omega⟩
            · have hgt : g = told := by
                have := HI.out.1
                rw [List.take_of_length_le (by omega), HSUM.out] at this
                exact this
              have hgi : ((g : Int) == (told : Int)) = true := by rw [beq_iff_eq]; omega
              clear hgt
              go_wp2_with fail
              refine (HW.out _ (HK7.out.trans HI.out.2)).mono ?_
              rintro e w8 ⟨rfl, k8⟩
              have HK8 := Lib.hid ((HK7.out.trans HI.out.2).trans k8)
              clear k8
              go_wp2_with fail
              go_ret
              exact ⟨rfl, HK8.out⟩
theorem journalLost_walk (w : World) (q : Int) (a : Option Addr) (n c : Nat) (l : List Op22) (hq : Lit.wf (.int .u8 q) = true) (hl : SlAt opR22 5 w a n l ∧ ∀ x ∈ l, x.good) :
    Calls Try.prog 3 #[.int .u8 q, .slice a n c] w fun e w' => e = .returned (.bool true) ∧ Keeps (fun _ => False) w w' :=
  journalLost_any w q a n c l hq hl trivial
end Go.Proofs.Ytfbdpmeelejdhaa
