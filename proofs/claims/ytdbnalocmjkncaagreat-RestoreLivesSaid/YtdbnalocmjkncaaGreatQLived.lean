/-
  lived: what is taken in a life, behind what was there, and how many of these are sure.
-/
import Derived.Test.YtdbnalocmjkncaaGreatQTorn
import Derived.Test.YtdbnalocmjkncaaGreatQFine
import Derived.Test.YtdbnalocmjkncaaGreatQWorks22
import Derived.Test.YtdbnalocmjkncaaGreatQOps22
import Derived.Deep.DeepCutAuto
import Derived.Deep.CutBlock
namespace Go.Proofs.YtdbnalocmjkncaaGreat
open Go.RowKit Go.Maps
attribute [local instance] noRes

/-- an act's cells, in whatever world the old blocks are as they were -/
theorem op22_at {w : World} {a : Option Addr} {n : Nat} {l : List Op22} (h : SlAt opR22 5 w a n l) {i : Nat} (hi : i < n) : ∃ x b off, l[i]? = some x ∧ a = some ⟨b, off, none⟩ ∧ b < w.heap.size ∧ ∀ W, Keeps (fun _ => False) w W →
    (W.cell? ⟨b, off + i * 5, none⟩ = some (.int .u8 x.kind) ∧ W.cell? ⟨b, off + i * 5 + 1, none⟩ = some (.int .i64 x.x.kind) ∧ W.cell? ⟨b, off + i * 5 + 2, none⟩ = some (.int .i64 x.x.at_) ∧ W.cell? ⟨b, off + i * 5 + 3, none⟩ = some (.string x.x.body) ∧ W.cell? ⟨b, off + i * 5 + 4, none⟩ = some (.int .u8 x.n)) := by
  obtain ⟨x, hx⟩ : ∃ x, l[i]? = some x := ⟨_, List.getElem?_eq_getElem (by rw [h.1]; exact hi)⟩
  obtain ⟨b, off, ha, hb, hc⟩ := h.2 (by omega)
  have hh : ∀ W, Keeps (fun _ => False) w W → ∀ j v, (opR22 x)[j]? = some v → W.cell? ⟨b, off + i * 5 + j, none⟩ = some v := fun W k j v hj => (World.cell?_of_block (w := w) (k.block b hb id)).trans (hc i x j v hx hj)
  exact ⟨x, b, off, hx, ha, hb, fun W k => ⟨hh W k 0 _ rfl, hh W k 1 _ rfl, hh W k 2 _ rfl, hh W k 3 _ rfl, hh W k 4 _ rfl⟩⟩
/-- behind a life -/
def LivedP (N0 A0 : Nat) (w : World) (s M jb k size : Nat) (e : Ending) (w' : World) : Prop :=
  ∃ v' i al sure bad L nn rest lost gone G cur, e = .returned (.tuple #[v', .int .i64 (sure : Nat)]) ∧ i ≤ 30 ∧ Torn N0 A0 w w' s M jb 8000 k size i al sure bad L nn rest lost gone G cur v'
set_option maxRecDepth 100000 in
set_option maxHeartbeats 2000000 in
theorem lived_any (N0 A0 : Nat) (hN0 : N0 ≤ 900000) (hA0 : A0 ≤ 16777216) (w w1 : World) (s M jb k size : Nat) (a : Option Addr) (n c : Nat) (l : List Op22) (hl : SlAt opR22 5 w a n l ∧ ∀ x ∈ l, x.good) (hnc : n ≤ maxLen)
    (al0 : List Itm) (bad0 : Nat) (L0 : List SRep) (nn0 : Nat) (gone0 : List Itm) (G0 : List ByteArray) (cur0 : Option (List Itm × Nat)) (v0 : Value) (hT : Torn N0 A0 w w1 s M jb 8000 k size 0 al0 al0.length bad0 L0 nn0 false 0 gone0 G0 cur0 v0) :
    Calls Tryz.prog 23 #[.pointer (some ⟨s, 0, none⟩), .pointer (some ⟨jb, 0, none⟩), .slice a n c, v0] w1 (LivedP N0 A0 w s M jb k size) := by
  have HL := Lib.hid hl
  have HT0 := Lib.hid hT
  obtain ⟨av0, cv0, rfl⟩ := hT.own.sl
  have hle0 := hT.le
  have hnc2 : n ≤ 9223372036854775807 := by unfold maxLen at hnc; omega
  clear hl hT hnc
  go_enter Tryz.func23, Tryz.ntmps23
  go_wp2_with fail
  go_loopw [3, 10, 11] (fun u3 u10 u11 wr => ∃ (i sure : Nat), i ≤ n ∧ i ≤ 30 ∧ u11 = .int .i64 i ∧ u10 = .int .i64 sure ∧ Hid (∃ all bad L nn rest lost gone G cur, Torn N0 A0 w wr s M jb 8000 k size i all sure bad L nn rest lost gone G cur u3)) (fun _ _ u11 _ => n - (intOf u11).toNat)
  case atStart => exact ⟨0, al0.length, Nat.zero_le _, Nat.zero_le _, rfl, rfl, Lib.hid ⟨_, _, _, _, _, _, _, _, _, HT0.out⟩⟩
  case round =>
      obtain ⟨i, sure, hin, hi30, rfl, rfl, al, bad, L, nn, rest, lost, gone, G, cur, HT0⟩ := hrel
      rename World => wr
      obtain ⟨av, cv, rfl⟩ := HT0.own.sl
      have HT := Lib.hid HT0
      have hal := HT0.le.2
      have hnn2 := HT0.n_le
      have hll := HT0.ll
      clear HT0
      by_cases hlt : i < n ∧ i < 30
      · obtain ⟨x, b, off, hx, rfl, hb, hc⟩ := op22_at HL.out.1 hlt.1
        have hgd := HL.out.2 x (List.mem_of_getElem? hx)
        have HGD := Lib.hid hgd
        have HC := Lib.hid hc
        obtain ⟨o0, o1, o2, o3, o4⟩ := hc wr HT.out.keeps
        have HF := Lib.hid (fun W => item_any W x.x hgd.2.1)
        clear hx hc hgd
        go_wp2_with fail
        refine (HF.out _).mono ?_
        obtain ⟨y, hy⟩ : ∃ y, y = fineI x.x := ⟨_, rfl⟩
        have hyo := fineI_ok x.x
        rw [← hy] at hyo ⊢
        have HYO := Lib.hid hyo
        clear hy hyo HF
        obtain ⟨yk, yt, yb⟩ := y
        unfold itmV
        rintro e w3 ⟨rfl, k3⟩
        have H3 := Lib.hid (HT.out.same k3)
        obtain ⟨p0, -, -, -, -⟩ := HC.out (w3.alloc (.cells #[.int .i64 yk, .int .i64 yt, .string yb] 42)) (H3.out.keeps.alloc _)
        clear k3 o0 o1 o2 o3 o4
        go_upto_block 2 with (fail)
        obtain ⟨wo, hwo⟩ : ∃ wo, wo = w3.alloc (.cells #[.int .i64 yk, .int .i64 yt, .string yb] 42) := ⟨_, rfl⟩
        rw [← hwo] at p0 ⊢
        obtain ⟨xb, hxb⟩ : ∃ xb, xb = w3.heap.size := ⟨_, rfl⟩
        rw [← hxb]
        have HX := Lib.hid (show Blk wo xb 42 #[.int .i64 yk, .int .i64 yt, .string yb] by rw [hwo, hxb]; exact Blk.new _ _ _)
        have HO := Lib.hid (H3.out.same (show Keeps (fun _ => False) w3 wo by rw [hwo]; (repeat (first | (with_reducible assumption) | (with_reducible exact Keeps.refl _ _) | refine Keeps.drew ?_ | refine Keeps.drewN ?_ _ | refine Keeps.setCell ?_ (by simp) _ | refine Keeps.setRow ?_ (by simp) _ | refine Keeps.alloc ?_ _))))
        have HNE := Lib.hid (show ∀ j, (Value.slice av al.length cv).ownBlock = some j → j ≠ xb from fun j hj e => by have := (World.ownsRow.lt H3.out.own j hj).2; omega)
        clear hwo hxb H3 p0
        have hal2 : al.length ≤ 16777300 := by omega
        have hl2 : lost ≤ 59 := by omega
        have hn2 : nn ≤ 901200 := by omega
        obtain ⟨c0, c1, c2⟩ := HX.out.cells3
        rcases (show x.kind % 8 = 4 ∨ x.kind % 8 = 5 ∨ x.kind % 8 = 6 ∨ (x.kind % 8 ≠ 4 ∧ x.kind % 8 ≠ 5 ∧ x.kind % 8 ≠ 6) from by omega) with h7 | h7 | h7 | ⟨h4, h5, h6⟩
        · as_aux_lemma =>
          have e4 : ((x.kind : Int) % 8 == 4) = true := by rw [beq_iff_eq]; omega
          clear h7
          go_wp2_with fail
          refine (jsync HO.out.jour (by omega)).mono ?_
          rintro e w4 (⟨L4, rfl, hr, hx4, J4, hl4, k4⟩ | ⟨L4, rfl, hr, hx4, J4, hl4, k4⟩ | ⟨L4, rfl, hr, J4, hl4, k4⟩)
          · obtain ⟨cur4, T4⟩ := HO.out.sync hx4 J4 hl4 (Nat.le_refl _) hr k4
            have HT4 := Lib.hid T4
            clear hx4 J4 hl4 k4 T4
            go_wp2_with fail
            exact ⟨⟨i + 1, al.length, by omega, by omega, by go_num, rfl, _, _, _, _, _, _, _, _, _, HT4.out⟩, by simp [intOf]; omega⟩
          · have HT4 := Lib.hid (HO.out.fell hx4 J4 hl4 (Nat.le_refl _) k4)
            clear hx4 J4 hl4 k4
            go_wp2_with fail
            exact ⟨⟨i + 1, sure, by omega, by omega, by go_num, rfl, _, _, _, _, _, _, _, _, _, HT4.out⟩, by simp [intOf]; omega⟩
          · have HT4 := Lib.hid (HO.out.idle J4 hl4 (Nat.le_refl _) (Nat.le_succ _) (fun _ => rfl) k4)
            clear J4 hl4 k4
            go_wp2_with fail
            exact ⟨⟨i + 1, sure, by omega, by omega, by go_num, rfl, _, _, _, _, _, _, _, _, _, HT4.out⟩, by simp [intOf]; omega⟩
        · as_aux_lemma =>
          have e4 : ((x.kind : Int) % 8 == 4) = false := by rw [beq_eq_false_iff_ne]; omega
          have e5 : ((x.kind : Int) % 8 == 5) = true := by rw [beq_iff_eq]; omega
          clear h7
          go_wp2_with fail
          refine (jlost HO.out.jour).mono ?_
          rintro e w4 ⟨rfl, hw⟩
          obtain rfl : wo = w4 := hw.symm
          go_wp2_with fail
          obtain ⟨R, hR⟩ : ∃ R, R = putP 8000 tLog k size bad (L.map SRep.f) (str (recP (gapI yt lost))) := ⟨_, rfl⟩
          have hre := jreopen HO.out.jour (by omega) (by decide) yt HYO.out.2.1
          rw [← hR] at hre
          have hgo := gapI_ok (now := yt) (lost := lost) HYO.out.2.1 (by omega)
          have hpt := HO.out.put hgo R hR
          refine hre.mono ?_
          clear hre
          rintro e w4 (⟨L4, rfl, hr, h0, hR0, J4, hl4, k4⟩ | ⟨L4, rfl, hr, h0, hR0, J4, hl4, k4⟩ | ⟨L4, rfl, hr, J4, hl4, k4⟩)
          · rcases hpt with ⟨-, gone4, G4, cur4, hL4⟩ | ⟨hne, -⟩
            · have h0i : (0 : Int) < lost := by omega
              have HX4 := Lib.hid (HX.out.otherJ k4 (by decide) (by decide) (by decide) (by decide))
              have HO4 := Lib.hid (ownI_acts HO.out.own k4)
              have HJ4 := Lib.hid J4
              have HL4 := Lib.hid (hl4 ▸ hL4)
              have HP := Lib.hid (fun W => rput_any lost W lost (by omega) (by omega) (by omega))
              have hz4 := J4.sto.keeps.size
              clear hR0 J4 hl4 k4 hL4 hgo hR c0 c1 c2
              obtain ⟨c0, c1, c2⟩ := HX4.out.cells3
              obtain ⟨ds, hds⟩ : ∃ ds, ds = str (dec lost) := ⟨_, rfl⟩
              rw [← hds] at HP
              have hgi : gapI yt lost = ⟨3, yt, ds⟩ := by unfold gapI; rw [hds]
              rw [hgi] at HL4
              clear hds hgi
              go_wp2_with fail
              go_region_held3 (fun w2 => w2.cell? ⟨xb, 1, none⟩ = some (.int .i64 yt))
                ((first | exact c1 | exact d1 | exact f1 | exact g1))
                (first
                  | (go_at_call 50; refine (HP.out _).mono ?_; rintro e w5 ⟨rfl, k5⟩; have k5 : Keeps (fun _ => False) w4 w5 := k5.from_drew; have hx5 := HX4.out.keeps k5 id; have d1 := hx5.cell 1; have f1 := (hx5.alloc (.cells #[.int .i64 3, .int .i64 yt, .string ds] 42)).cell 1; simp only [List.getElem?_toArray, List.getElem?_cons_zero, List.getElem?_cons_succ] at d1 f1; have HK5 := Lib.hid k5; have hz5 := k5.size; have HX5 := Lib.hid hx5; clear k5 hx5)
                  | (refine step_append_st itmR 3 itmR_len (by decide) rfl (.tmp 63) (.tmp 69) 29 rfl w.heap.size 42 (.agg #[.int .i64 0, .int .i64 0, .string ⟨#[]⟩]) 32 Tryz.underlying29 (by kernel_rfl) rfl (by omega) (.slice av al.length cv) al rfl (OwnS.keeps (S := fun _ => False) (OwnS.keeps (S := fun _ => False) HO4.out HK5.out (fun _ _ _ _ => id)) ((Keeps.refl _ _).alloc _) (fun _ _ _ _ => id)) w5.heap.size 1 ⟨3, yt, ds⟩ rfl (Blk.new _ _ _) (itmR_ones _) (by omega) (by simp; omega) ?_; intro g7 cap7 w7 O7 k7 hat7; have g1 := ((HX5.out.alloc (.cells #[.int .i64 3, .int .i64 yt, .string ds] 42)).keeps k7 (fun e => HNE.out xb e rfl)).cell 1; simp only [List.getElem?_toArray, List.getElem?_cons_zero, List.getElem?_cons_succ] at g1; have HW5 := Lib.hid (OwnS.keeps (S := fun _ => False) (OwnS.keeps (S := fun _ => False) HO4.out HK5.out (fun _ _ _ _ => id)) ((Keeps.refl _ _).alloc (.cells #[.int .i64 3, .int .i64 yt, .string ds] 42)) (fun _ _ _ _ => id)); have HJ7 := Lib.hid (((HJ4.out.same HK5.out).same ((Keeps.refl _ _).alloc (.cells #[.int .i64 3, .int .i64 yt, .string ds] 42))).beside k7 (fun j hj => ⟨(World.ownsRow.lt HW5.out j hj).1, OwnS.ownBlk HW5.out j hj⟩)); have HO7 := Lib.hid O7; clear O7 k7 hat7))
              go_wp2_with fail
              exact ⟨⟨i + 1, sure, by omega, by omega, by go_num, rfl, _, _, _, _, _, _, _, _, _, HO.out.took HJ7.out HL4.out HO7.out (Nat.le_refl _) rfl⟩, by simp [intOf]; omega⟩
            · exact absurd hR0 hne
          · rcases hpt with ⟨hne, -⟩ | ⟨-, gone4, G4, cur4, hL4⟩
            · exact absurd hne hR0
            · have HT4 := Lib.hid (HO.out.lost_ J4 (hl4 ▸ hL4) (Nat.le_refl _) (Nat.le_succ _) k4)
              clear hR0 J4 hl4 k4 hL4 hgo hR
              go_wp2_with fail
              exact ⟨⟨i + 1, sure, by omega, by omega, by go_num, rfl, _, _, _, _, _, _, _, _, _, HT4.out⟩, by simp [intOf]; omega⟩
          · have hl0 : lost = 0 := by
              rcases Nat.eq_zero_or_pos lost with h0 | h0
              · exact h0
              · exact absurd ⟨HO.out.lr h0, h0⟩ hr
            have HT4 := Lib.hid (HO.out.idle J4 hl4 (Nat.le_refl _) (Nat.zero_le _) (fun h => absurd h (by omega)) k4)
            clear J4 hl4 k4 hpt hgo hR hr
            subst hl0
            go_wp2_with fail
            exact ⟨⟨i + 1, sure, by omega, by omega, by go_num, rfl, _, _, _, _, _, _, _, _, _, HT4.out⟩, by simp [intOf]; omega⟩
        · as_aux_lemma =>
          have e4 : ((x.kind : Int) % 8 == 4) = false := by rw [beq_eq_false_iff_ne]; omega
          have e5 : ((x.kind : Int) % 8 == 5) = false := by rw [beq_eq_false_iff_ne]; omega
          have e6 : ((x.kind : Int) % 8 == 6) = true := by rw [beq_iff_eq]; omega
          obtain ⟨p0, -, -, -, p4⟩ := HC.out wo HO.out.keeps
          clear h7
          go_wp2_with fail
          refine (jfail HO.out.jour _ (by omega)).mono ?_
          rintro e w4 ⟨L4, rfl, J4, hl4, k4⟩
          have HT4 := Lib.hid (HO.out.idle J4 hl4 (by omega) (by omega) HO.out.lr k4.st)
          clear J4 hl4 k4
          go_wp2_with fail
          exact ⟨⟨i + 1, sure, by omega, by omega, by go_num, rfl, _, _, _, _, _, _, _, _, _, HT4.out⟩, by simp [intOf]; omega⟩
        · as_aux_lemma =>
          have e4 : ((x.kind : Int) % 8 == 4) = false := by rw [beq_eq_false_iff_ne]; omega
          have e5 : ((x.kind : Int) % 8 == 5) = false := by rw [beq_eq_false_iff_ne]; omega
          have e6 : ((x.kind : Int) % 8 == 6) = false := by rw [beq_eq_false_iff_ne]; omega
          clear h4 h5 h6
          obtain ⟨R, hR⟩ : ∃ R, R = putP 8000 tLog k size bad (L.map SRep.f) (str (recP ⟨yk, yt, yb⟩)) := ⟨_, rfl⟩
          have hre := jadd HO.out.jour (by omega) (by decide) (by omega) ⟨yk, yt, yb⟩ HYO.out
          rw [← hR] at hre
          have hpt := HO.out.put HYO.out R hR
          have HRE := Lib.hid hre
          have HPT := Lib.hid hpt
          clear hre hpt hR
          unfold itmV at HRE
          go_wp2_with fail
          refine HRE.out.mono ?_
          rintro e w4 (⟨L4, rfl, hr, hR0, J4, hl4, k4⟩ | ⟨L4, rfl, hr, hR0, J4, hl4, k4⟩ | ⟨L4, rfl, hr, J4, hl4, k4⟩)
          · rcases HPT.out with ⟨-, gone4, G4, cur4, hL4⟩ | ⟨hne, -⟩
            · have hl0 : lost = 0 := by
                rcases Nat.eq_zero_or_pos lost with h0 | h0
                · exact h0
                · have := HO.out.lr h0; rw [hr] at this; cases this
              have HX4 := Lib.hid (HX.out.otherJ k4 (by decide) (by decide) (by decide) (by decide))
              have HO4 := Lib.hid (ownI_acts HO.out.own k4)
              have HJ4 := Lib.hid J4
              have HL4 := Lib.hid (hl4 ▸ hL4)
              have hz4 := J4.sto.keeps.size
              have HL0 := Lib.hid hl0
              clear hR0 J4 hl4 k4 hL4 c0 c1 c2 hl0
              obtain ⟨c0, c1, c2⟩ := HX4.out.cells3
              go_wp2_with (with_reducible show wpList _ _ _ (⟨some 44, _, _, _, _, _⟩ :: _) _ _; go_must (refine wpList_append_st itmR 3 itmR_len (by decide) rfl (.tmp 41) (.tmp 43) 29 rfl w.heap.size 42 (.agg #[.int .i64 0, .int .i64 0, .string ⟨#[]⟩]) 32 Tryz.underlying29 (by kernel_rfl) rfl (by omega) (.slice av al.length cv) al rfl (OwnS.keeps (S := fun _ => False) HO4.out ((Keeps.refl _ _).alloc _) (fun _ _ _ _ => id)) w4.heap.size 1 ⟨yk, yt, yb⟩ rfl (Blk.new _ _ _) (itmR_ones _) (by omega) (by simp; omega) ?_; intro v7 w7 O7 k7; have HJ7 := Lib.hid ((HJ4.out.same ((Keeps.refl _ _).alloc _)).beside k7 (fun j hj => hj)); have HO7 := Lib.hid O7; clear O7 k7))
              exact ⟨⟨i + 1, sure, by omega, by omega, by go_num, rfl, _, _, _, _, _, _, _, _, _, HO.out.took HJ7.out HL4.out HO7.out (Nat.le_refl _) HL0.out⟩, by simp [intOf]; omega⟩
            · exact absurd hR0 hne
          · rcases HPT.out with ⟨hne, -⟩ | ⟨-, gone4, G4, cur4, hL4⟩
            · exact absurd hne hR0
            · have HT4 := Lib.hid (HO.out.lost_ J4 (hl4 ▸ hL4) (Nat.le_refl _) (Nat.le_refl _) k4)
              clear hR0 J4 hl4 k4 hL4
              go_wp2_with fail
              exact ⟨⟨i + 1, sure, by omega, by omega, by go_num, rfl, _, _, _, _, _, _, _, _, _, HT4.out⟩, by simp [intOf]; omega⟩
          · have HT4 := Lib.hid (HO.out.idle J4 hl4 (Nat.le_refl _) (Nat.le_refl _) (fun _ => rfl) k4)
            clear J4 hl4 k4
            go_wp2_with fail
            exact ⟨⟨i + 1, sure, by omega, by omega, by go_num, rfl, _, _, _, _, _, _, _, _, _, HT4.out⟩, by simp [intOf]; omega⟩
      · by_cases hin2 : i < n
        · have h30 : i = 30 := by omega
          subst h30
          go_wp2_with fail
          go_ret2
          exact ⟨_, 30, _, _, _, _, _, _, _, _, _, _, rfl, Nat.le_refl _, HT.out⟩
        · go_wp2_with fail
          go_ret2
          exact ⟨_, i, _, _, _, _, _, _, _, _, _, _, rfl, hi30, HT.out⟩
end Go.Proofs.YtdbnalocmjkncaaGreat
