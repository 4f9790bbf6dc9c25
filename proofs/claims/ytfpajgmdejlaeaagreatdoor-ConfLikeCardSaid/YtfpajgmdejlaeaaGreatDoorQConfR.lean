/-
  conf: breaks.
-/
import Derived.Test.YtfpajgmdejlaeaaGreatDoorQConfM
namespace Go.Proofs.YtfpajgmdejlaeaaGreatDoor
open Go.RowKit Go.Maps

def brkS (c : Cf) (u : Con) (x : Nd) : (Int × Int) ⊕ (Cf × Con) :=
  if formP x 2 false then
    (match numP (argN x 0) 1 9 with
     | .inl e => .inl (e, lineN x)
     | .inr i =>
       (let e := if (brkP (argN x 1).data.toList).1 = 0 then (if (argN x 1).size = 0 then 3 else 0) else (brkP (argN x 1).data.toList).1
        if e ≠ 0 then .inl (e, lineN x)
        else if (c.brks.getD i.toNat ⟨#[]⟩).size ≠ 0 then .inl (8, lineN x) else .inr ({ c with brks := c.brks.set i.toNat (argN x 1) }, u)))
  else .inl (3, lineN x)
/-- a break sequence at a place -/
def brkK (c : Cf) (u : Con) (s1 : ByteArray) (q : Int) (ln : Int) (k : Nat) : (Int × Int) ⊕ (Cf × Con) :=
  if q ≠ 0 then .inl (q, ln) else if s1.size = 0 then .inl (3, ln) else if (c.brks.getD k ⟨#[]⟩).size ≠ 0 then .inl (8, ln) else .inr ({ c with brks := c.brks.set k s1 }, u)
theorem brkK_of (c : Cf) (u : Con) (s1 : ByteArray) (q ln : Int) (k : Nat) : (let e := if q = 0 then (if s1.size = 0 then 3 else 0) else q
        if e ≠ 0 then Sum.inl (e, ln)
        else if (c.brks.getD k ⟨#[]⟩).size ≠ 0 then .inl (8, ln) else .inr ({ c with brks := c.brks.set k s1 }, u)) = brkK c u s1 q ln k := by
  unfold brkK
  by_cases h : q = 0
  · by_cases h2 : s1.size = 0
    · simp [h, h2]
    · simp [h, h2]
  · simp [h]
theorem numP_in {s : ByteArray} {lo hi v : Int} (h : numP s lo hi = .inr v) : lo ≤ v ∧ v ≤ hi := by
  unfold numP at h
  split at h
  · split at h
    · cases h
    · injection h with h; subst h; omega
  · cases h
theorem brkP_code (l : List UInt8) : (brkP l).1 = 0 ∨ (brkP l).1 = 3 ∨ (brkP l).1 = 5 := by
  unfold brkP
  split
  · simp
  · split
    · simp
    · simp
theorem Ld.brkCell {w : World} {g M B : Nat} {cv gv uv av : Value} {b0 b1 b2 b3 b4 b5 b6 b7 b8 b9 : ByteArray} {c : Cf} {u : Con} {ks : List SK} (h : Ld w g M B cv gv uv av b0 b1 b2 b3 b4 b5 b6 b7 b8 b9 c u ks) : ∀ k, k < 10 → w.cell? ⟨g, 4 + k, none⟩ = some (.string (c.brks.getD k ⟨#[]⟩))
  | 0, _ => by rw [h.brk]; exact h.blk.cell 4
  | 1, _ => by rw [h.brk]; exact h.blk.cell 5
  | 2, _ => by rw [h.brk]; exact h.blk.cell 6
  | 3, _ => by rw [h.brk]; exact h.blk.cell 7
  | 4, _ => by rw [h.brk]; exact h.blk.cell 8
  | 5, _ => by rw [h.brk]; exact h.blk.cell 9
  | 6, _ => by rw [h.brk]; exact h.blk.cell 10
  | 7, _ => by rw [h.brk]; exact h.blk.cell 11
  | 8, _ => by rw [h.brk]; exact h.blk.cell 12
  | 9, _ => by rw [h.brk]; exact h.blk.cell 13
  | k + 10, hk => absurd hk (by omega)
theorem Ld.setBrk {w : World} {g M B : Nat} {cv gv uv av : Value} {b0 b1 b2 b3 b4 b5 b6 b7 b8 b9 : ByteArray} {c : Cf} {u : Con} {ks : List SK} (h : Ld w g M B cv gv uv av b0 b1 b2 b3 b4 b5 b6 b7 b8 b9 c u ks) (s : ByteArray) (k : Nat) (hk : k < 10) : ∃ c0 c1 c2 c3 c4 c5 c6 c7 c8 c9, Ld (w.setCell ⟨g, 4 + k, none⟩ (.string s)) g M B cv gv uv av c0 c1 c2 c3 c4 c5 c6 c7 c8 c9 { c with brks := c.brks.set k s } u ks := by
  have k2 := Keeps.set1 w g (4 + k) (.string s)
  have hb := h.blk
  have hm := h.seen.isMap
  obtain ⟨rs, g1, g2⟩ := h.grps
  have hc := h.cons.keeps k2 (fun i _ _ ⟨cs, hb'⟩ e => Blk.ne_ hb' hb (by decide) e)
  have hg1 := g1.keeps k2 (fun i _ _ ⟨cs, hb'⟩ e => Blk.ne_ hb' hb (by decide) e)
  have hg2 := g2.keeps k2 (fun i cs hb' e => Blk.ne_ hb' hb (by decide) e)
  have hu := h.usrs.keeps k2 (fun i _ _ ⟨cs, hb'⟩ e => Blk.ne_ hb' hb (by decide) e)
  have ha := h.accs.keeps k2 (fun i _ _ ⟨cs, hb'⟩ e => Blk.ne_ hb' hb (by decide) e)
  have hs := h.seen.keeps k2 (fun e => map_ne15 hb hm e.symm)
  have hB := hb.set_ (4 + k) (.string s)
  have hbr := h.brk
  match k, hk with
  | 0, _ => exact ⟨s, b1, b2, b3, b4, b5, b6, b7, b8, b9, hB, by rw [show ({ c with brks := c.brks.set 0 s } : Cf).brks = c.brks.set 0 s from rfl, hbr]; rfl, hc, ⟨rs, hg1, hg2⟩, hu, ha, hs, h.hg, h.hM, h.pos⟩
  | 1, _ => exact ⟨b0, s, b2, b3, b4, b5, b6, b7, b8, b9, hB, by rw [show ({ c with brks := c.brks.set 1 s } : Cf).brks = c.brks.set 1 s from rfl, hbr]; rfl, hc, ⟨rs, hg1, hg2⟩, hu, ha, hs, h.hg, h.hM, h.pos⟩
  | 2, _ => exact ⟨b0, b1, s, b3, b4, b5, b6, b7, b8, b9, hB, by rw [show ({ c with brks := c.brks.set 2 s } : Cf).brks = c.brks.set 2 s from rfl, hbr]; rfl, hc, ⟨rs, hg1, hg2⟩, hu, ha, hs, h.hg, h.hM, h.pos⟩
  | 3, _ => exact ⟨b0, b1, b2, s, b4, b5, b6, b7, b8, b9, hB, by rw [show ({ c with brks := c.brks.set 3 s } : Cf).brks = c.brks.set 3 s from rfl, hbr]; rfl, hc, ⟨rs, hg1, hg2⟩, hu, ha, hs, h.hg, h.hM, h.pos⟩
  | 4, _ => exact ⟨b0, b1, b2, b3, s, b5, b6, b7, b8, b9, hB, by rw [show ({ c with brks := c.brks.set 4 s } : Cf).brks = c.brks.set 4 s from rfl, hbr]; rfl, hc, ⟨rs, hg1, hg2⟩, hu, ha, hs, h.hg, h.hM, h.pos⟩
  | 5, _ => exact ⟨b0, b1, b2, b3, b4, s, b6, b7, b8, b9, hB, by rw [show ({ c with brks := c.brks.set 5 s } : Cf).brks = c.brks.set 5 s from rfl, hbr]; rfl, hc, ⟨rs, hg1, hg2⟩, hu, ha, hs, h.hg, h.hM, h.pos⟩
  | 6, _ => exact ⟨b0, b1, b2, b3, b4, b5, s, b7, b8, b9, hB, by rw [show ({ c with brks := c.brks.set 6 s } : Cf).brks = c.brks.set 6 s from rfl, hbr]; rfl, hc, ⟨rs, hg1, hg2⟩, hu, ha, hs, h.hg, h.hM, h.pos⟩
  | 7, _ => exact ⟨b0, b1, b2, b3, b4, b5, b6, s, b8, b9, hB, by rw [show ({ c with brks := c.brks.set 7 s } : Cf).brks = c.brks.set 7 s from rfl, hbr]; rfl, hc, ⟨rs, hg1, hg2⟩, hu, ha, hs, h.hg, h.hM, h.pos⟩
  | 8, _ => exact ⟨b0, b1, b2, b3, b4, b5, b6, b7, s, b9, hB, by rw [show ({ c with brks := c.brks.set 8 s } : Cf).brks = c.brks.set 8 s from rfl, hbr]; rfl, hc, ⟨rs, hg1, hg2⟩, hu, ha, hs, h.hg, h.hM, h.pos⟩
  | 9, _ => exact ⟨b0, b1, b2, b3, b4, b5, b6, b7, b8, s, hB, by rw [show ({ c with brks := c.brks.set 9 s } : Cf).brks = c.brks.set 9 s from rfl, hbr]; rfl, hc, ⟨rs, hg1, hg2⟩, hu, ha, hs, h.hg, h.hM, h.pos⟩

set_option maxRecDepth 100000 in
set_option maxHeartbeats 2000000 in
theorem breaks_any (w : World) (S : Nat → Prop) (x : Nd) (r : NdV) (hM : NdM w S x r) (hline : 0 < lineN x) (hsz : ∀ s ∈ argsN x, s.size ≤ 1073741824)
    (g M B : Nat) (cv gv uv av : Value) (b0 b1 b2 b3 b4 b5 b6 b7 b8 b9 : ByteArray) (c : Cf) (u : Con) (ks : List SK) (hL : Ld w g M B cv gv uv av b0 b1 b2 b3 b4 b5 b6 b7 b8 b9 c u ks) (hSeen : Seen c ks) (_hSB : ∀ i, S i → i < B) (_hBw : B ≤ w.heap.size) :
    Calls Tryz.prog 52 #[.pointer (some ⟨g, 0, none⟩), .agg (ndR r).toArray] w (StmtPost (brkS c u x) g M B ks.length w) := by
  obtain ⟨key, as_, bl, sub, line⟩ := x
  rw [NdM] at hM
  obtain ⟨hk1, hb1, hl1, ⟨ha1, hin, -, -⟩, -⟩ := hM
  simp only [argsN] at hsz
  simp only [lineN] at hline
  have hal := ha1.1
  obtain ⟨O, hO⟩ : ∃ O, O = brkS c u (.mk key as_ bl sub line) := ⟨_, rfl⟩
  rw [← hO]
  unfold brkS at hO
  have hFM := fun W => form_any W r 2 false (by omega)
  have HW3 := Lib.hid (fun W cd (h : cd ≠ 0) => wrong_any W cd r h)
  have HNUM := Lib.hid (fun W (kk : Keeps (fun _ => False) w W) s (h : as_[0]? = some s) hn hs => number_any W r as_ 0 s 1 9 (ha1.keeps kk (fun _ _ => id)) h hn hs (by omega) (by omega))
  obtain ⟨rk, ra, rn, rc, rb, rla, rln, rlc, rli⟩ := r
  simp only at hk1 hb1 hl1 ha1 hin hal hFM
  subst hk1 hb1 hl1
  have HF := Lib.hid hFM
  simp only [ndR] at HW3 HF HNUM ⊢
  obtain ⟨wa, hwa⟩ : ∃ wa, wa = w.alloc (.cells #[.string rk, .slice ra rn rc, .bool rb, .slice rla rln rlc, .int .i64 rli] 60) := ⟨_, rfl⟩
  have hka : Keeps (fun _ => False) w wa := by rw [hwa]; exact (Keeps.refl _ _).alloc _
  have hN : Blk wa w.heap.size 60 #[.string rk, .slice ra rn rc, .bool rb, .slice rla rln rlc, .int .i64 rli] := by rw [hwa]; exact Blk.new _ _ _
  have HWA := Lib.hid hwa
  have HKA := Lib.hid hka
  have HN := Lib.hid hN
  obtain ⟨⟨x0, x1, x2, x3, x4⟩, -⟩ := hN.all5
  have hsa := hka.size
  have HL := Lib.hid hL
  have HSE := Lib.hid hSeen
  by_cases hfm : rn = 2 ∧ rb = false
  · rw [if_pos (formP_true (x := .mk rk as_ rb sub rli) ⟨by rw [show argsN (.mk rk as_ rb sub rli) = as_ from rfl, hal]; exact hfm.1, hfm.2⟩)] at hO
    have HFM := Lib.hid hfm
    obtain ⟨s0, s1, hs⟩ := two_of (hal.trans hfm.1)
    obtain ⟨h2, -⟩ := hfm
    subst hs h2
    simp only [argN, argsN, List.getD_cons_zero, List.getD_cons_succ, lineN] at hO
    obtain ⟨ab, ao, rfl, hab, hac1⟩ := slat_one ha1 (i := 1) rfl
    have HAC := Lib.hid (fun W (k : Keeps (fun _ => False) w W) => ((World.cell?_of_block (w := w) (k.block ab hab id)).trans hac1 : W.cell? ⟨ab, ao + 1, none⟩ = some (.string s1)))
    have hss0 := hsz s0 (by simp)
    have hss1 := hsz s1 (by simp)
    have HNU := Lib.hid (fun W (kk : Keeps (fun _ => False) w W) => HNUM.out W kk s0 rfl (by omega) (by omega))
    have HBR := Lib.hid (fun W => bread_any W s1 hss1)
    have HO := Lib.hid hO
    clear hO hwa hka hN ha1 hsz hFM hal hin hac1 hL hSeen _hSB HNUM
    go_enter Tryz.func52, Tryz.ntmps52
    go_wp2_with fail
    rw [← HWA.out]
    refine (HF.out _).mono ?_
    rintro e w2 ⟨hgood, -, k2⟩
    obtain rfl := hgood HFM.out
    have HK2 := Lib.hid (HKA.out.trans k2)
    have HN2 := Lib.hid (HN.out.keeps k2 id)
    obtain ⟨⟨x0, x1, x2, x3, x4⟩, -⟩ := HN2.out.all5
    clear hgood k2
    go_wp2_with fail
    refine (HNU.out _ HK2.out).mono ?_
    rintro e w3 ⟨hgood, hbad, k3⟩
    have HK3 := Lib.hid (HK2.out.trans k3)
    have HN3 := Lib.hid (HN2.out.keeps k3 id)
    obtain ⟨⟨x0, x1, x2, x3, x4⟩, -⟩ := HN3.out.all5
    have y1 := HAC.out _ HK3.out
    clear k3
    cases hq : numP s0 1 9 with
    | inl c1 =>
      have HE : Hid (O = .inl (c1, rli)) := Lib.hid (by rw [HO.out, hq])
      obtain ⟨v, rfl, hc⟩ := hbad _ hq
      obtain ⟨ty, vx, rfl⟩ := hc.form
      have HCh := Lib.hid hc
      clear hgood hbad hq hc
      go_wp2_with fail
      go_ret
      exact .bad HE.out hline ⟨_, rfl, HCh.out⟩ HK3.out.none_
    | inr v1 =>
      obtain rfl := hgood _ hq
      obtain ⟨hv1, hv2⟩ := numP_in hq
      obtain ⟨k, rfl⟩ : ∃ k : Nat, v1 = (k : Int) := ⟨v1.toNat, by omega⟩
      have HO2 : Hid (O = brkK c u s1 (brkP s1.data.toList).1 rli k) := Lib.hid (by rw [HO.out, hq, ← brkK_of]; rfl)
      have hk10 : k < 10 := by omega
      have hk10i : (k : Int) < 10 := by omega
      have hk0i : (0 : Int) ≤ (k : Int) := by omega
      clear hgood hbad hq hv1 hv2
      obtain ⟨Q, hQ⟩ : ∃ Q, Q = brkP s1.data.toList := ⟨_, rfl⟩
      have hqc := brkP_code s1.data.toList
      rw [← hQ] at HBR HO2 hqc
      obtain ⟨qc, ql⟩ := Q
      simp only at HO2 hqc
      clear hQ
      go_wp2_with fail
      refine (HBR.out _).mono ?_
      rintro e w4 ⟨⟨v3, rfl, -⟩, k4⟩
      have HK4 := Lib.hid (HK3.out.trans k4)
      have HN4 := Lib.hid (HN3.out.keeps k4 id)
      obtain ⟨⟨x0, x1, x2, x3, x4⟩, -⟩ := HN4.out.all5
      clear k4
      by_cases hq0 : qc = 0
      · subst hq0
        by_cases h0 : s1.size = 0
        · have HE : Hid (O = .inl (3, rli)) := Lib.hid (by rw [HO2.out]; unfold brkK; rw [if_neg (by simp), if_pos h0])
          have hs1 : s1 = ⟨#[]⟩ := by apply ba_ext; exact List.eq_nil_of_length_eq_zero (by simpa using h0)
          subst hs1
          clear h0 hqc
          go_wp2_with fail
          refine (HW3.out _ 3 (by decide)).mono ?_
          rintro e w6 ⟨⟨v, rfl, hc⟩, k6⟩
          have HCh := Lib.hid hc
          clear hc
          go_wp2_with fail
          go_ret
          exact .bad HE.out hline ⟨_, rfl, HCh.out⟩ (HK4.out.trans k6).none_
        · have hsne : s1.toList.isEmpty = false := ne_nil (fun e => h0 (ba_len e))
          have hL4 := HL.out.same HK4.out
          have z4 := hL4.brkCell k hk10
          have f4 := hL4.blk.frozen (4 + k)
          have HL4 := Lib.hid hL4
          obtain ⟨old, hold⟩ : ∃ old, old = c.brks.getD k ⟨#[]⟩ := ⟨_, rfl⟩
          rw [← hold] at z4
          by_cases h8 : old.size = 0
          · have HE : Hid (O = .inr ({ c with brks := c.brks.set k s1 }, u)) := Lib.hid (by rw [HO2.out]; unfold brkK; rw [if_neg (by simp), if_neg h0, if_neg (by rw [← hold]; simp [h8])])
            have ho1 : old = ⟨#[]⟩ := by apply ba_ext; exact List.eq_nil_of_length_eq_zero (by simpa using h8)
            have HD := Lib.hid (hL4.setBrk s1 k hk10)
            clear h0 hqc hL4 hold h8
            subst ho1
            go_wp2_with fail
            go_ret
            obtain ⟨_, _, _, _, _, _, _, _, _, _, hd⟩ := HD.out
            exact .done HE.out hd ⟨HSE.out.con, HSE.out.grp, HSE.out.usr, HSE.out.few⟩ (Nat.le_succ _) (HK4.out.none_.and_ (Keeps.set1 w4 g (4 + k) _) (fun i _ e => by subst e; exact HL4.out.hg))
          · have HE : Hid (O = .inl (8, rli)) := Lib.hid (by rw [HO2.out]; unfold brkK; rw [if_neg (by simp), if_neg h0, if_pos (by rw [← hold]; exact h8)])
            have hone : old.toList.isEmpty = false := ne_nil (fun e => h8 (ba_len e))
            clear h0 hqc hL4 hold h8
            go_wp2_with fail
            refine (HW3.out _ 8 (by decide)).mono ?_
            rintro e w6 ⟨⟨v, rfl, hc⟩, k6⟩
            have HCh := Lib.hid hc
            clear hc
            go_wp2_with fail
            go_ret
            exact .bad HE.out hline ⟨_, rfl, HCh.out⟩ (HK4.out.trans k6).none_
      · have HE : Hid (O = .inl (qc, rli)) := Lib.hid (by rw [HO2.out]; unfold brkK; rw [if_pos hq0])
        rcases hqc with h | rfl | rfl
        · exact absurd h hq0
        all_goals clear hq0
        all_goals go_wp2_with fail
        all_goals refine (HW3.out _ _ (by decide)).mono ?_
        all_goals rintro e w6 ⟨⟨v, rfl, hc⟩, k6⟩
        all_goals have HCh := Lib.hid hc
        all_goals clear hc
        all_goals go_wp2_with fail
        all_goals go_ret
        all_goals exact .bad HE.out hline ⟨_, rfl, HCh.out⟩ (HK4.out.trans k6).none_
  · have HE : Hid (O = .inl (3, rli)) := Lib.hid (by rw [hO, if_neg (by rw [formP_false (x := .mk rk as_ rb sub rli) (fun h => hfm ⟨by rw [← hal]; exact h.1, h.2⟩)]; simp)]; rfl)
    have HFM := Lib.hid hfm
    clear hO hwa hka hN ha1 hsz hfm hFM hal hL hSeen hin HNUM
    go_enter Tryz.func52, Tryz.ntmps52
    go_wp2_with fail
    rw [← HWA.out]
    refine (HF.out _).mono ?_
    rintro e w2 ⟨-, hbad, k2⟩
    obtain ⟨v, rfl, hc⟩ := hbad HFM.out
    obtain ⟨ty, vx, rfl⟩ := hc.form
    have HCh := Lib.hid hc
    have HK2 := Lib.hid (HKA.out.trans k2)
    clear hbad k2 hc
    go_wp2_with fail
    go_ret
    exact .bad HE.out hline ⟨_, rfl, HCh.out⟩ HK2.out.none_
end Go.Proofs.YtfpajgmdejlaeaaGreatDoor
