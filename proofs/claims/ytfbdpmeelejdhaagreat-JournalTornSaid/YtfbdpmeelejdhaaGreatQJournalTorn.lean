/-
  JournalTorn: what is read of all generations is a piece of all items that were taken, which ends not ahead of what was sure.
-/
import Derived.Test.YtfbdpmeelejdhaaGreatQTorn
import Derived.Test.YtfbdpmeelejdhaaGreatQWorks22
import Derived.Test.YtfbdpmeelejdhaaGreatQOps22
import Derived.Test.YtfbdpmeelejdhaaGreatQOps11
import Derived.Deep.DeepCutAuto
import Derived.Deep.CutBlock
namespace Go.Proofs.YtfbdpmeelejdhaaGreat
open Go.RowKit Go.Maps

/-- an act's cells, in whatever world the old blocks are as they were -/
theorem op22_at {w : World} {a : Option Addr} {n : Nat} {l : List Op22} (h : SlAt opR22 5 w a n l) {i : Nat} (hi : i < n) : ∃ x b off, l[i]? = some x ∧ a = some ⟨b, off, none⟩ ∧ b < w.heap.size ∧ ∀ W, Keeps (fun _ => False) w W →
    (W.cell? ⟨b, off + i * 5, none⟩ = some (.int .u8 x.kind) ∧ W.cell? ⟨b, off + i * 5 + 1, none⟩ = some (.int .i64 x.x.kind) ∧ W.cell? ⟨b, off + i * 5 + 2, none⟩ = some (.int .i64 x.x.at_) ∧ W.cell? ⟨b, off + i * 5 + 3, none⟩ = some (.string x.x.body) ∧ W.cell? ⟨b, off + i * 5 + 4, none⟩ = some (.int .u8 x.n)) := by
  obtain ⟨x, hx⟩ : ∃ x, l[i]? = some x := ⟨_, List.getElem?_eq_getElem (by rw [h.1]; exact hi)⟩
  obtain ⟨b, off, ha, hb, hc⟩ := h.2 (by omega)
  have hh : ∀ W, Keeps (fun _ => False) w W → ∀ j v, (opR22 x)[j]? = some v → W.cell? ⟨b, off + i * 5 + j, none⟩ = some v := fun W k j v hj => (World.cell?_of_block (w := w) (k.block b hb id)).trans (hc i x j v hx hj)
  exact ⟨x, b, off, hx, ha, hb, fun W k => ⟨hh W k 0 _ rfl, hh W k 1 _ rfl, hh W k 2 _ rfl, hh W k 3 _ rfl, hh W k 4 _ rfl⟩⟩
set_option maxRecDepth 100000 in
set_option maxHeartbeats 2000000 in
theorem journalTorn_any (w : World) (m q : Int) (a : Option Addr) (n c : Nat) (l : List Op22) (a2 : Option Addr) (n2 c2 : Nat) (keep : List Int) (hm : Lit.wf (.int .u8 m) = true) (hq : Lit.wf (.int .u8 q) = true) (hl : SlAt opR22 5 w a n l ∧ ∀ x ∈ l, x.good) (hk : SlAt intR 1 w a2 n2 keep ∧ ∀ x ∈ keep, IntB x) (he : Ety w) :
    Calls Tryz.prog 3 #[.int .u8 m, .int .u8 q, .slice a n c, .slice a2 n2 c2] w fun e w' => e = .returned (.bool true) ∧ Keeps (fun _ => False) w w' := by
  have hm : 0 ≤ m ∧ m ≤ 255 := by simpa [Lit.wf, IntKind.min, IntKind.max, IntKind.signed, IntKind.bits] using hm
  have hq : 0 ≤ q ∧ q ≤ 255 := by simpa [Lit.wf, IntKind.min, IntKind.max, IntKind.signed, IntKind.bits] using hq
  obtain ⟨m0, rfl⟩ := Int.eq_ofNat_of_zero_le hm.1
  obtain ⟨q0, rfl⟩ := Int.eq_ofNat_of_zero_le hq.1
  have hm2 : m0 ≤ 255 := by omega
  have hq2 : q0 ≤ 255 := by omega
  have HW := Lib.hid (fun W (k : Keeps (fun _ => False) w W) => works22 W (ety_keeps he k (fun _ _ => id)))
  have HL := Lib.hid hl
  have HK := Lib.hid hk
  have HE := Lib.hid he
  clear hl hk he hm hq
  by_cases hg : 60 < n ∨ 20 < n2
  · have hg2 : (60 : Int) < n ∨ (¬ (60 : Int) < n ∧ (20 : Int) < n2) := by omega
    clear hg
    rcases hg2 with hg2 | ⟨hg2, hg3⟩
    all_goals
      go_enter Tryz.func3, Tryz.ntmps3
      go_wp2_with fail
      refine (HW.out _ (Keeps.refl _ _)).mono ?_
      rintro e w1 ⟨rfl, k1⟩
      have HK1 := Lib.hid k1
      clear k1
      go_wp2_with fail
      go_ret
      exact ⟨rfl, HK1.out⟩
  · have hn60 : ¬ (60 : Int) < n := by omega
    have hn20 : ¬ (20 : Int) < n2 := by omega
    have hnn : n ≤ 60 := by omega
    clear hg
    obtain ⟨k, hkk⟩ : ∃ k, k = m0 % 6 + 1 := ⟨_, rfl⟩
    have hk1 : 1 ≤ k ∧ k ≤ 16 := by omega
    have hki : ((m0 : Nat) : Int) % 6 = (k : Int) - 1 := by omega
    obtain ⟨size, hsz0⟩ : ∃ size, size = 64 + q0 := ⟨_, rfl⟩
    have hsz1 : 64 ≤ size ∧ size ≤ 1048576 := by omega
    have hszi : (64 : Int) + (q0 : Int) = (size : Int) := by omega
    clear hkk hsz0
    go_enter Tryz.func3, Tryz.ntmps3
    go_wp2_with fail
    refine (snew_ok HE.out (Keeps.refl _ _) (by decide) (by decide)).mono ?_
    rintro e w1 ⟨s, M, rfl, S1, k1⟩
    have HS1 := Lib.hid S1
    clear S1 k1
    go_wp2_with fail
    refine (jnew HS1.out tLog (by decide) k size hk1 hsz1).mono ?_
    rintro e w2 ⟨⟨jb, rfl, J2⟩, k2⟩
    have HJ2 := Lib.hid J2
    clear J2 k2 HS1 hki hszi
    go_wp2_with fail
    go_loopw [14, 15, 16] (fun u14 u15 u16 wr => ∃ (i sure : Nat), i ≤ n ∧ u16 = .int .i64 i ∧ u15 = .int .i64 sure ∧ sure ≤ 60 ∧ Hid (∃ all bad L nn rest lost gone G cur, Torn w wr s M jb 5000 k size i all sure bad L nn rest lost gone G cur u14)) (fun _ _ u16 _ => n - (intOf u16).toNat)
    case atStart => exact ⟨0, 0, Nat.zero_le _, rfl, rfl, by omega, Lib.hid ⟨[], 0, [], 0, false, 0, [], [], none, ⟨HJ2.out, Log.none_ hk1.1, OwnS.none_, by omega, ⟨Nat.le_refl _, Nat.zero_le _⟩, by omega, fun h => absurd h (by omega)⟩⟩⟩
    case round =>
      obtain ⟨i, sure, hin, rfl, rfl, hsure, al, bad, L, nn, rest, lost, gone, G, cur, HT0⟩ := hrel
      rename World => wr
      obtain ⟨av, cv, rfl⟩ := HT0.own.sl
      have HT := Lib.hid HT0
      have hal := HT0.le.2
      have hnn2 := HT0.n_le
      have hll := HT0.ll
      clear HT0
      by_cases hlt : i < n
      · obtain ⟨x, b, off, hx, rfl, hb, hc⟩ := op22_at HL.out.1 hlt
        have hgd := HL.out.2 x (List.mem_of_getElem? hx)
        have HGD := Lib.hid hgd
        have HC := Lib.hid hc
        obtain ⟨o0, o1, o2, o3, o4⟩ := hc wr HT.out.keeps
        have HF := Lib.hid (fun W => fine_any W x.x hgd.2.1)
        clear hx hc hgd
        go_wp2_with fail
        refine (HF.out _).mono ?_
        obtain ⟨y, hy⟩ : ∃ y, y = fineI x.x := ⟨_, rfl⟩
        have hyo := fineI_ok x.x
        rw [← hy] at hyo ⊢
        have HYO := Lib.hid hyo
        clear hy hyo HF
        obtain ⟨yk, yt, yb⟩ := y
        unfold itmV
        rintro e w3 ⟨rfl, k3⟩
        have H3 := Lib.hid (HT.out.same k3)
        obtain ⟨p0, -, -, -, -⟩ := HC.out (w3.alloc (.cells #[.int .i64 yk, .int .i64 yt, .string yb] 36)) (H3.out.keeps.alloc _)
        clear k3 o0 o1 o2 o3 o4
        go_upto_block 2 with (fail)
        obtain ⟨wo, hwo⟩ : ∃ wo, wo = w3.alloc (.cells #[.int .i64 yk, .int .i64 yt, .string yb] 36) := ⟨_, rfl⟩
        rw [← hwo] at p0 ⊢
        obtain ⟨xb, hxb⟩ : ∃ xb, xb = w3.heap.size := ⟨_, rfl⟩
        rw [← hxb]
        have HX := Lib.hid (show Blk wo xb 36 #[.int .i64 yk, .int .i64 yt, .string yb] by rw [hwo, hxb]; exact Blk.new _ _ _)
        have HO := Lib.hid (H3.out.same (show Keeps (fun _ => False) w3 wo by rw [hwo]; (repeat (first | (with_reducible assumption) | (with_reducible exact Keeps.refl _ _) | refine Keeps.drew ?_ | refine Keeps.drewN ?_ _ | refine Keeps.setCell ?_ (by simp) _ | refine Keeps.setRow ?_ (by simp) _ | refine Keeps.alloc ?_ _))))
        have HNE := Lib.hid (show ∀ j, (Value.slice av al.length cv).ownBlock = some j → j ≠ xb from fun j hj e => by have := (World.ownsRow.lt H3.out.own j hj).2; omega)
        clear hwo hxb H3 p0
        have hal2 : al.length ≤ 59 := by omega
        have hl2 : lost ≤ 59 := by omega
        have hn2 : nn ≤ 1200 := by omega
        go_cut [14, 15] (fun s14 s15 wx => ∃ sure' : Nat, s15 = .int .i64 sure' ∧ sure' ≤ 60 ∧ Hid (∃ all bad L nn rest lost gone G cur, Torn w wx s M jb 5000 k size (i + 1) all sure' bad L nn rest lost gone G cur s14))
        case first =>
          obtain ⟨c0, c1, c2⟩ := HX.out.cells3
          rcases (show x.kind % 8 = 4 ∨ x.kind % 8 = 5 ∨ x.kind % 8 = 6 ∨ (x.kind % 8 ≠ 4 ∧ x.kind % 8 ≠ 5 ∧ x.kind % 8 ≠ 6) from by omega) with h7 | h7 | h7 | ⟨h4, h5, h6⟩
          · as_aux_lemma =>
            have e4 : ((x.kind : Int) % 8 == 4) = true := by rw [beq_iff_eq]; omega
            clear h7
            go_wp2_with fail
            refine (jsync HO.out.jour (by omega)).mono ?_
            rintro e w4 (⟨L4, rfl, hr, hx4, J4, hl4, k4⟩ | ⟨L4, rfl, hr, hx4, J4, hl4, k4⟩ | ⟨L4, rfl, hr, J4, hl4, k4⟩)
            · obtain ⟨cur4, T4⟩ := HO.out.sync hx4 J4 hl4 (Nat.le_refl _) hr k4
              have HT4 := Lib.hid T4
              clear hx4 J4 hl4 k4 T4
              go_wp2_with fail
              go_meet
              case rel => exact ⟨al.length, rfl, by omega, Lib.hid ⟨_, _, _, _, _, _, _, _, _, HT4.out⟩⟩
            · have HT4 := Lib.hid (HO.out.fell hx4 J4 hl4 (Nat.le_refl _) k4)
              clear hx4 J4 hl4 k4
              go_wp2_with fail
              go_meet
              case rel => exact ⟨sure, rfl, by omega, Lib.hid ⟨_, _, _, _, _, _, _, _, _, HT4.out⟩⟩
            · have HT4 := Lib.hid (HO.out.idle J4 hl4 (Nat.le_refl _) (Nat.le_succ _) (fun _ => rfl) k4)
              clear J4 hl4 k4
              go_wp2_with fail
              go_meet
              case rel => exact ⟨sure, rfl, by omega, Lib.hid ⟨_, _, _, _, _, _, _, _, _, HT4.out⟩⟩
          · as_aux_lemma =>
            have e4 : ((x.kind : Int) % 8 == 4) = false := by rw [beq_eq_false_iff_ne]; omega
            have e5 : ((x.kind : Int) % 8 == 5) = true := by rw [beq_iff_eq]; omega
            clear h7
            go_wp2_with fail
            refine (jlost HO.out.jour).mono ?_
            rintro e w4 ⟨rfl, hw⟩
            obtain rfl : wo = w4 := hw.symm
            go_wp2_with fail
            obtain ⟨R, hR⟩ : ∃ R, R = putP 5000 tLog k size bad (L.map SRep.f) (str (recP (gapI yt lost))) := ⟨_, rfl⟩
            have hre := jreopen HO.out.jour (by omega) (by decide) yt HYO.out.2.1
            rw [← hR] at hre
            have hgo := gapI_ok (now := yt) (lost := lost) HYO.out.2.1 (by omega)
            have hpt := HO.out.put hgo R hR
            refine hre.mono ?_
            clear hre
            rintro e w4 (⟨L4, rfl, hr, h0, hR0, J4, hl4, k4⟩ | ⟨L4, rfl, hr, h0, hR0, J4, hl4, k4⟩ | ⟨L4, rfl, hr, J4, hl4, k4⟩)
            · rcases hpt with ⟨-, gone4, G4, cur4, hL4⟩ | ⟨hne, -⟩
              · have h0i : (0 : Int) < lost := by omega
                have HX4 := Lib.hid (HX.out.otherJ k4 (by decide) (by decide) (by decide) (by decide))
                have HO4 := Lib.hid (ownI_acts HO.out.own k4)
                have HJ4 := Lib.hid J4
                have HL4 := Lib.hid (hl4 ▸ hL4)
                have HP := Lib.hid (fun W => rput_any lost W lost (by omega) (by omega) (by omega))
                have hz4 := J4.sto.keeps.size
                clear hR0 J4 hl4 k4 hL4 hgo hR c0 c1 c2
                obtain ⟨c0, c1, c2⟩ := HX4.out.cells3
                obtain ⟨ds, hds⟩ : ∃ ds, ds = str (dec lost) := ⟨_, rfl⟩
                rw [← hds] at HP
                have hgi : gapI yt lost = ⟨3, yt, ds⟩ := by unfold gapI; rw [hds]
                rw [hgi] at HL4
                clear hds hgi
                go_wp2_with fail
                go_region_held3 (fun w2 => w2.cell? ⟨xb, 1, none⟩ = some (.int .i64 yt))
                  ((first | exact c1 | exact d1 | exact f1 | exact g1))
                  (first
                    | (go_at_call 14; refine (HP.out _).mono ?_; rintro e w5 ⟨rfl, k5⟩; have k5 : Keeps (fun _ => False) w4 w5 := k5.from_drew; have hx5 := HX4.out.keeps k5 id; have d1 := hx5.cell 1; have f1 := (hx5.alloc (.cells #[.int .i64 3, .int .i64 yt, .string ds] 36)).cell 1; simp only [List.getElem?_toArray, List.getElem?_cons_zero, List.getElem?_cons_succ] at d1 f1; have HK5 := Lib.hid k5; have hz5 := k5.size; have HX5 := Lib.hid hx5; clear k5 hx5)
                    | (refine step_append_st itmR 3 itmR_len (by decide) rfl (.tmp 94) (.tmp 100) 34 rfl w.heap.size 36 (.agg #[.int .i64 0, .int .i64 0, .string ⟨#[]⟩]) 32 Tryz.underlying34 (by kernel_rfl) rfl (by omega) (.slice av al.length cv) al rfl (OwnS.keeps (S := fun _ => False) (OwnS.keeps (S := fun _ => False) HO4.out HK5.out (fun _ _ _ _ => id)) ((Keeps.refl _ _).alloc _) (fun _ _ _ _ => id)) w5.heap.size 1 ⟨3, yt, ds⟩ rfl (Blk.new _ _ _) (itmR_ones _) (by omega) (by simp; omega) ?_; intro g7 cap7 w7 O7 k7 hat7; have g1 := ((HX5.out.alloc (.cells #[.int .i64 3, .int .i64 yt, .string ds] 36)).keeps k7 (fun e => HNE.out xb e rfl)).cell 1; simp only [List.getElem?_toArray, List.getElem?_cons_zero, List.getElem?_cons_succ] at g1; have HW5 := Lib.hid (OwnS.keeps (S := fun _ => False) (OwnS.keeps (S := fun _ => False) HO4.out HK5.out (fun _ _ _ _ => id)) ((Keeps.refl _ _).alloc (.cells #[.int .i64 3, .int .i64 yt, .string ds] 36)) (fun _ _ _ _ => id)); have HJ7 := Lib.hid (((HJ4.out.same HK5.out).same ((Keeps.refl _ _).alloc (.cells #[.int .i64 3, .int .i64 yt, .string ds] 36))).beside k7 (fun j hj => ⟨(World.ownsRow.lt HW5.out j hj).1, OwnS.ownBlk HW5.out j hj⟩)); have HO7 := Lib.hid O7; clear O7 k7 hat7))
                go_wp2_with fail
                go_meet
                case rel => exact ⟨sure, rfl, by omega, Lib.hid ⟨_, _, _, _, _, _, _, _, _, HO.out.took HJ7.out HL4.out HO7.out (Nat.le_refl _) rfl⟩⟩
              · exact absurd hR0 hne
            · rcases hpt with ⟨hne, -⟩ | ⟨-, gone4, G4, cur4, hL4⟩
              · exact absurd hne hR0
              · have HT4 := Lib.hid (HO.out.lost_ J4 (hl4 ▸ hL4) (Nat.le_refl _) (Nat.le_succ _) k4)
                clear hR0 J4 hl4 k4 hL4 hgo hR
                go_wp2_with fail
                go_meet
                case rel => exact ⟨sure, rfl, by omega, Lib.hid ⟨_, _, _, _, _, _, _, _, _, HT4.out⟩⟩
            · have hl0 : lost = 0 := by
                rcases Nat.eq_zero_or_pos lost with h0 | h0
                · exact h0
                · exact absurd ⟨HO.out.lr h0, h0⟩ hr
              have HT4 := Lib.hid (HO.out.idle J4 hl4 (Nat.le_refl _) (Nat.zero_le _) (fun h => absurd h (by omega)) k4)
              clear J4 hl4 k4 hpt hgo hR hr
              subst hl0
              go_wp2_with fail
              go_meet
              case rel => exact ⟨sure, rfl, by omega, Lib.hid ⟨_, _, _, _, _, _, _, _, _, HT4.out⟩⟩
          · as_aux_lemma =>
            have e4 : ((x.kind : Int) % 8 == 4) = false := by rw [beq_eq_false_iff_ne]; omega
            have e5 : ((x.kind : Int) % 8 == 5) = false := by rw [beq_eq_false_iff_ne]; omega
            have e6 : ((x.kind : Int) % 8 == 6) = true := by rw [beq_iff_eq]; omega
            obtain ⟨p0, -, -, -, p4⟩ := HC.out wo HO.out.keeps
            clear h7
            go_wp2_with fail
            refine (jfail HO.out.jour _ (by omega)).mono ?_
            rintro e w4 ⟨L4, rfl, J4, hl4, k4⟩
            have HT4 := Lib.hid (HO.out.idle J4 hl4 (by omega) (by omega) HO.out.lr k4.st)
            clear J4 hl4 k4
            go_wp2_with fail
            go_meet
            case rel => exact ⟨sure, rfl, by omega, Lib.hid ⟨_, _, _, _, _, _, _, _, _, HT4.out⟩⟩
          · as_aux_lemma =>
            have e4 : ((x.kind : Int) % 8 == 4) = false := by rw [beq_eq_false_iff_ne]; omega
            have e5 : ((x.kind : Int) % 8 == 5) = false := by rw [beq_eq_false_iff_ne]; omega
            have e6 : ((x.kind : Int) % 8 == 6) = false := by rw [beq_eq_false_iff_ne]; omega
            clear h4 h5 h6
            obtain ⟨R, hR⟩ : ∃ R, R = putP 5000 tLog k size bad (L.map SRep.f) (str (recP ⟨yk, yt, yb⟩)) := ⟨_, rfl⟩
            have hre := jadd HO.out.jour (by omega) (by decide) (by omega) ⟨yk, yt, yb⟩ HYO.out
            rw [← hR] at hre
            have hpt := HO.out.put HYO.out R hR
            have HRE := Lib.hid hre
            have HPT := Lib.hid hpt
            clear hre hpt hR
            unfold itmV at HRE
            go_wp2_with fail
            refine HRE.out.mono ?_
            rintro e w4 (⟨L4, rfl, hr, hR0, J4, hl4, k4⟩ | ⟨L4, rfl, hr, hR0, J4, hl4, k4⟩ | ⟨L4, rfl, hr, J4, hl4, k4⟩)
            · rcases HPT.out with ⟨-, gone4, G4, cur4, hL4⟩ | ⟨hne, -⟩
              · have hl0 : lost = 0 := by
                  rcases Nat.eq_zero_or_pos lost with h0 | h0
                  · exact h0
                  · have := HO.out.lr h0; rw [hr] at this; cases this
                have HX4 := Lib.hid (HX.out.otherJ k4 (by decide) (by decide) (by decide) (by decide))
                have HO4 := Lib.hid (ownI_acts HO.out.own k4)
                have HJ4 := Lib.hid J4
                have HL4 := Lib.hid (hl4 ▸ hL4)
                have hz4 := J4.sto.keeps.size
                have HL0 := Lib.hid hl0
                clear hR0 J4 hl4 k4 hL4 c0 c1 c2 hl0
                obtain ⟨c0, c1, c2⟩ := HX4.out.cells3
                go_wp2_with (with_reducible show wpList _ _ _ (⟨some 75, _, _, _, _, _⟩ :: _) _ _; go_must (refine wpList_append_st itmR 3 itmR_len (by decide) rfl (.tmp 72) (.tmp 74) 34 rfl w.heap.size 36 (.agg #[.int .i64 0, .int .i64 0, .string ⟨#[]⟩]) 32 Tryz.underlying34 (by kernel_rfl) rfl (by omega) (.slice av al.length cv) al rfl (OwnS.keeps (S := fun _ => False) HO4.out ((Keeps.refl _ _).alloc _) (fun _ _ _ _ => id)) w4.heap.size 1 ⟨yk, yt, yb⟩ rfl (Blk.new _ _ _) (itmR_ones _) (by omega) (by simp; omega) ?_; intro v7 w7 O7 k7; have HJ7 := Lib.hid ((HJ4.out.same ((Keeps.refl _ _).alloc _)).beside k7 (fun j hj => hj)); have HO7 := Lib.hid O7; clear O7 k7))
                go_meet
                case rel => exact ⟨sure, rfl, by omega, Lib.hid ⟨_, _, _, _, _, _, _, _, _, HO.out.took HJ7.out HL4.out HO7.out (Nat.le_refl _) HL0.out⟩⟩
              · exact absurd hR0 hne
            · rcases HPT.out with ⟨hne, -⟩ | ⟨-, gone4, G4, cur4, hL4⟩
              · exact absurd hne hR0
              · have HT4 := Lib.hid (HO.out.lost_ J4 (hl4 ▸ hL4) (Nat.le_refl _) (Nat.le_refl _) k4)
                clear hR0 J4 hl4 k4 hL4
                go_wp2_with fail
                go_meet
                case rel => exact ⟨sure, rfl, by omega, Lib.hid ⟨_, _, _, _, _, _, _, _, _, HT4.out⟩⟩
            · have HT4 := Lib.hid (HO.out.idle J4 hl4 (Nat.le_refl _) (Nat.le_refl _) (fun _ => rfl) k4)
              clear J4 hl4 k4
              go_wp2_with fail
              go_meet
              case rel => exact ⟨sure, rfl, by omega, Lib.hid ⟨_, _, _, _, _, _, _, _, _, HT4.out⟩⟩
        case rest =>
          obtain ⟨sure', rfl, hsure', HQ⟩ := hcut
          obtain ⟨al', bad', L', nn', rest', lost', gone', G', cur', T'⟩ := HQ.out
          obtain ⟨av', cv', rfl⟩ := T'.own.sl
          have HT := Lib.hid T'
          have hal' := T'.le.2
          have hki := heldP_is hk1
          have HKI := Lib.hid hki
          clear T' hki HO HX HC HYO HNE HGD
          go_wp2_with fail
          refine (gall_any HT.out.jour.sto tLog (k : Int) (by decide)).mono ?_
          rw [HKI.out]
          rintro e w5 ⟨⟨v5, rfl, hO5⟩, k5⟩
          obtain ⟨a5, c5, rfl⟩ := hO5.sl'
          obtain ⟨hn5, hs5⟩ := slat_own hO5
          have hz5 := sizes_all HT.out.jour.sto tLog k
          have hlen5 := allP_len (L'.map SRep.f) tLog k
          have hrd := HT.out.read
          rw [HKI.out] at hrd
          obtain ⟨ds, hds⟩ : ∃ ds, ds = allP (L'.map SRep.f) tLog k := ⟨_, rfl⟩
          rw [← hds] at hs5 hz5 hlen5 hrd ⊢
          rw [List.length_map]
          have hdl := drop_load (all := al') (gone := gone') (l := loadP ds) (rest := []) (by rw [List.append_nil]; exact hrd)
          have hle := congrArg List.length hrd
          rw [List.length_append] at hle
          have HLE := Lib.hid hle
          have HDL := Lib.hid hdl
          have HT5 := Lib.hid (HT.out.same k5)
          have HLD := Lib.hid (rload_any w5 a5 ds.length c5 ds hs5 (by omega) hz5)
          clear hO5 hn5 hs5 hz5 hlen5 hrd hdl hds k5 HT hle
          go_wp2_with fail
          refine HLD.out.mono ?_
          rintro e w6 ⟨⟨v6, rfl, hO6⟩, k6⟩
          obtain ⟨a6, c6, rfl⟩ := hO6.sl
          have HS6 := Lib.hid hO6.slat_.2.1
          have HT6 := Lib.hid (HT5.out.same k6)
          have HA6 := Lib.hid HT6.out.own.slat_
          obtain ⟨ld, hld⟩ : ∃ ld, ld = loadP ds := ⟨_, rfl⟩
          rw [← hld] at HS6 HDL HLE ⊢
          have HWI := Lib.hid (rwithin_true w6 a6 av' ld.length al'.length c6 cv' ld al' HS6.out HA6.out.2.1 al'.length gone'.length HDL.out.1 (by have := HLE.out; omega) HDL.out.2 HA6.out.2.2.1 (by omega) HA6.out.2.2.2)
          clear hO6 k6 hld HT5 HLD
          go_wp2_with fail
          refine HWI.out.mono ?_
          rintro e w7 ⟨rfl, k7⟩
          have HT7 := Lib.hid (HT6.out.same k7)
          clear k7
          go_wp2_with fail
          exact ⟨⟨i + 1, sure', by omega, by go_num, rfl, hsure', al', bad', L', nn', rest', lost', gone', G', cur', HT7.out⟩, by simp [intOf]; omega⟩
      · have hki := heldP_is hk1
        have HKI := Lib.hid hki
        have hkb : ∀ q ∈ keep, -9223372036854775808 ≤ q ∧ q ≤ 9223372036854775807 := fun q hq => HK.out.2 q hq
        have HKB := Lib.hid hkb
        clear hki hkb
        go_wp2_with fail
        refine (scrash HT.out.jour.sto keep a2 n2 c2 HK.out.1 HKB.out (by omega)).mono ?_
        rintro e w4 ⟨L4, rfl, S4, hl4, k4⟩
        have hcr := HT.out.log.crash keep
        rw [← hl4] at hcr
        have HCR := Lib.hid hcr
        have HO4 := Lib.hid (ownI_acts HT.out.own k4.st)
        have HS4 := Lib.hid S4
        clear hl4 k4 S4 hcr
        go_wp2_with fail
        refine (gall_any HS4.out tLog (k : Int) (by decide)).mono ?_
        rw [HKI.out]
        rintro e w5 ⟨⟨v5, rfl, hO5⟩, k5⟩
        obtain ⟨a5, c5, rfl⟩ := hO5.sl'
        obtain ⟨hn5, hs5⟩ := slat_own hO5
        have hz5 := sizes_all HS4.out tLog k
        have hlen5 := allP_len (L4.map SRep.f) tLog k
        obtain ⟨rs, hrs, hsu⟩ := HCR.out
        obtain ⟨ds, hds⟩ : ∃ ds, ds = allP (L4.map SRep.f) tLog k := ⟨_, rfl⟩
        rw [← hds] at hs5 hz5 hlen5 hrs hsu ⊢
        rw [List.length_map]
        have hdl := drop_load hrs
        have HDL := Lib.hid hdl
        have HSU := Lib.hid hsu
        have HO5 := Lib.hid (OwnS.keeps (S := fun _ => False) HO4.out k5 (fun _ _ _ _ => id))
        have HLD := Lib.hid (rload_any w5 a5 ds.length c5 ds hs5 (by omega) hz5)
        have HK5 := Lib.hid (HS4.out.keeps.trans k5)
        clear hO5 hn5 hs5 hz5 hlen5 hrs hsu hdl hds k5 HT HCR
        go_wp2_with fail
        refine HLD.out.mono ?_
        rintro e w6 ⟨⟨v6, rfl, hO6⟩, k6⟩
        obtain ⟨a6, c6, rfl⟩ := hO6.sl
        have HS6 := Lib.hid hO6.slat_.2.1
        have HA6 := Lib.hid (OwnI.slat_ (OwnS.keeps (S := fun _ => False) HO5.out k6 (fun _ _ _ _ => id)))
        have HK6 := Lib.hid (HK5.out.trans k6)
        obtain ⟨ld, hld⟩ : ∃ ld, ld = loadP ds := ⟨_, rfl⟩
        rw [← hld] at HS6 HDL HSU ⊢
        have HWI := Lib.hid (rwithin_true w6 a6 av ld.length al.length c6 cv ld al HS6.out HA6.out.2.1 sure gone.length HDL.out.1 (by have := HSU.out; omega) HDL.out.2 HA6.out.2.2.1 (by omega) HA6.out.2.2.2)
        clear hO6 k6 hld HLD
        go_wp2_with fail
        refine HWI.out.mono ?_
        rintro e w7 ⟨rfl, k7⟩
        have HK7 := Lib.hid (HK6.out.trans k7)
        clear k7
        go_wp2_with fail
        refine (HW.out _ HK7.out).mono ?_
        rintro e w8 ⟨rfl, k8⟩
        have HK8 := Lib.hid (HK7.out.trans k8)
        clear k8
        go_wp2_with fail
        go_ret
        exact ⟨rfl, HK8.out⟩
theorem journalTorn_walk (w : World) (m q : Int) (a : Option Addr) (n c : Nat) (l : List Op22) (a2 : Option Addr) (n2 c2 : Nat) (keep : List Int) (hm : Lit.wf (.int .u8 m) = true) (hq : Lit.wf (.int .u8 q) = true) (hl : SlAt opR22 5 w a n l ∧ ∀ x ∈ l, x.good) (hk : SlAt intR 1 w a2 n2 keep ∧ ∀ x ∈ keep, IntB x) :
    Calls Tryz.prog 3 #[.int .u8 m, .int .u8 q, .slice a n c, .slice a2 n2 c2] w fun e w' => e = .returned (.bool true) ∧ Keeps (fun _ => False) w w' :=
  journalTorn_any w m q a n c l a2 n2 c2 keep hm hq hl hk trivial
end Go.Proofs.YtfbdpmeelejdhaaGreat
