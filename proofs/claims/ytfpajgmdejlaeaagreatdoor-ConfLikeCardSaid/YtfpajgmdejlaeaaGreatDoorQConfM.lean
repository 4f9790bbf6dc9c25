/-
  conf: access.
-/
import Derived.Test.YtfpajgmdejlaeaaGreatDoorQConfL
namespace Go.Proofs.YtfpajgmdejlaeaaGreatDoor
open Go.RowKit Go.Maps

def accessS (c : Cf) (u : Con) (x : Nd) : (Int × Int) ⊕ (Cf × Con) :=
  if formP x 3 false then
    (if fitsB (argN x 0) && fitsB (argN x 1) then
      (match idx (fun s => decide (s = argN x 2)) levels15 with
       | none => .inl (3, lineN x)
       | some k => if 4096 ≤ c.accs.length then .inl (15, lineN x) else .inr ({ c with accs := c.accs ++ [⟨argN x 0, argN x 1, k⟩] }, u))
     else .inl (3, lineN x))
  else .inl (3, lineN x)
def lvlO (c : Cf) (u : Con) (s0 s1 : ByteArray) (ln : Int) (o : Option Nat) : (Int × Int) ⊕ (Cf × Con) := match o with
  | none => .inl (3, ln)
  | some k => if 4096 ≤ c.accs.length then .inl (15, ln) else .inr ({ c with accs := c.accs ++ [⟨s0, s1, k⟩] }, u)
theorem Seen.addA {c : Cf} {ks : List SK} (h : Seen c ks) (x : Acc) (hf : c.accs.length < 4096) : Seen { c with accs := c.accs ++ [x] } ks :=
  ⟨h.con, h.grp, h.usr, by have := h.few; simp only [len_snoc]; omega⟩
theorem err_ret {cd ln : Int} {key : ByteArray} {K : Prop} {e : Ending} {w' : World} {b : Bool} (h : (b = true → e = .returned .nilIface) ∧ (b = false → Wrong cd ln key e w') ∧ K) : ∃ v, e = .returned v ∧ ((b = true → v = .nilIface) ∧ (b = false → ∃ ty x, v = .iface ty x ∧ Chain w' [(ln, key)] cd v) ∧ K) := by
  cases b with
  | true => exact ⟨_, h.1 rfl, fun _ => rfl, fun hn => (by cases hn), h.2.2⟩
  | false =>
    obtain ⟨v, rfl, hc⟩ := h.2.1 rfl
    obtain ⟨ty, x, hx⟩ := hc.form
    exact ⟨v, rfl, fun hn => (by cases hn), fun _ => ⟨ty, x, hx, hc⟩, h.2.2⟩
set_option maxRecDepth 100000 in
set_option maxHeartbeats 2000000 in
theorem access_any (w : World) (S : Nat → Prop) (x : Nd) (r : NdV) (hM : NdM w S x r) (hline : 0 < lineN x) (hsz : ∀ s ∈ argsN x, s.size ≤ 1073741824)
    (g M B : Nat) (cv gv uv av : Value) (b0 b1 b2 b3 b4 b5 b6 b7 b8 b9 : ByteArray) (c : Cf) (u : Con) (ks : List SK) (hL : Ld w g M B cv gv uv av b0 b1 b2 b3 b4 b5 b6 b7 b8 b9 c u ks) (hSeen : Seen c ks) (_hSB : ∀ i, S i → i < B) (hBw : B ≤ w.heap.size) :
    Calls Tryz.prog 51 #[.pointer (some ⟨g, 0, none⟩), .agg (ndR r).toArray] w (StmtPost (accessS c u x) g M B ks.length w) := by
  obtain ⟨key, as_, bl, sub, line⟩ := x
  rw [NdM] at hM
  obtain ⟨hk1, hb1, hl1, ⟨ha1, hin, hrc, -⟩, -⟩ := hM
  simp only [argsN] at hsz
  simp only [lineN] at hline
  have hal := ha1.1
  obtain ⟨O, hO⟩ : ∃ O, O = accessS c u (.mk key as_ bl sub line) := ⟨_, rfl⟩
  rw [← hO]
  unfold accessS at hO
  have hFM := fun W => form_any W r 3 false (by omega)
  have HW3 := Lib.hid (fun W => wrong_any W 3 r (by decide))
  have HW15 := Lib.hid (fun W => wrong_any W 15 r (by decide))
  have HFT := Lib.hid (fun W a n cc l h hn hs => cfits_any W r a n cc l h hn hs)
  obtain ⟨rk, ra, rn, rc, rb, rla, rln, rlc, rli⟩ := r
  simp only at hk1 hb1 hl1 ha1 hin hal hFM hrc
  subst hk1 hb1 hl1
  have HF := Lib.hid hFM
  simp only [ndR] at HW3 HW15 HF HFT ⊢
  obtain ⟨wa, hwa⟩ : ∃ wa, wa = w.alloc (.cells #[.string rk, .slice ra rn rc, .bool rb, .slice rla rln rlc, .int .i64 rli] 60) := ⟨_, rfl⟩
  have hka : Keeps (fun _ => False) w wa := by rw [hwa]; exact (Keeps.refl _ _).alloc _
  have hN : Blk wa w.heap.size 60 #[.string rk, .slice ra rn rc, .bool rb, .slice rla rln rlc, .int .i64 rli] := by rw [hwa]; exact Blk.new _ _ _
  have HWA := Lib.hid hwa
  have HKA := Lib.hid hka
  have HN := Lib.hid hN
  obtain ⟨⟨x0, x1, x2, x3, x4⟩, -⟩ := hN.all5
  have hsa := hka.size
  have HL := Lib.hid hL
  have HSE := Lib.hid hSeen
  by_cases hfm : rn = 3 ∧ rb = false
  · rw [if_pos (formP_true (x := .mk rk as_ rb sub rli) ⟨by rw [show argsN (.mk rk as_ rb sub rli) = as_ from rfl, hal]; exact hfm.1, hfm.2⟩)] at hO
    have HFM := Lib.hid hfm
    obtain ⟨s0, s1, s2, hs⟩ := three_of (hal.trans hfm.1)
    obtain ⟨h2, -⟩ := hfm
    subst hs h2
    have hrc3 : (2 : Int) ≤ (rc : Int) := by omega
    have hrc0 : (0 : Int) ≤ (rc : Int) := by omega
    simp only [argN, argsN, List.getD_cons_zero, List.getD_cons_succ, lineN] at hO
    obtain ⟨ab, ao, rfl, hab, hac⟩ := slat_one ha1 (i := 0) rfl
    obtain ⟨ab', ao', e, hab', hac1⟩ := slat_one ha1 (i := 1) rfl
    injection e with e
    injection e with e1 e2
    subst e1 e2
    obtain ⟨ab', ao', e, hab'', hac2⟩ := slat_one ha1 (i := 2) rfl
    injection e with e
    injection e with e1 e2
    subst e1 e2
    rw [Nat.add_zero] at hac
    have hSL2 : SlAt strR 1 w (some ⟨ab, ao, none⟩) 2 [s0, s1] := by
      obtain ⟨b', off', e, hb', hc'⟩ := ha1.2 (by omega)
      injection e with e
      injection e with e1 e2
      subst e1 e2
      refine ⟨rfl, fun _ => ⟨ab, ao, rfl, hb', fun i x j v hx hv => hc' i x j v ?_ hv⟩⟩
      match i, hx with
      | 0, hx => exact hx
      | 1, hx => exact hx
      | i + 2, hx => simp at hx
    have HAC := Lib.hid (fun W (k : Keeps (fun _ => False) w W) => (⟨(World.cell?_of_block (w := w) (k.block ab hab id)).trans hac, (World.cell?_of_block (w := w) (k.block ab hab id)).trans hac1, (World.cell?_of_block (w := w) (k.block ab hab id)).trans hac2⟩ : W.cell? ⟨ab, ao, none⟩ = some (.string s0) ∧ W.cell? ⟨ab, ao + 1, none⟩ = some (.string s1) ∧ W.cell? ⟨ab, ao + 2, none⟩ = some (.string s2)))
    have hss0 := hsz s0 (by simp)
    have hss1 := hsz s1 (by simp)
    have HO := Lib.hid hO
    have HFT2 := Lib.hid (fun W (k : Keeps (fun _ => False) w W) => HFT.out W (some ⟨ab, ao, none⟩) 2 rc [s0, s1] (hSL2.keeps k (fun _ _ => id)) (by omega) (by intro s hs; simp at hs; rcases hs with rfl | rfl <;> omega))
    clear hO hwa hka hN ha1 hsz hFM hal hin hac hac1 hac2 hL hSeen _hSB hSL2
    go_enter Tryz.func51, Tryz.ntmps51
    go_wp2_with fail
    rw [← HWA.out]
    refine (HF.out _).mono ?_
    rintro e w2 ⟨hgood, -, k2⟩
    obtain rfl := hgood HFM.out
    have HK2 := Lib.hid (HKA.out.trans k2)
    have HN2 := Lib.hid (HN.out.keeps k2 id)
    obtain ⟨⟨x0, x1, x2, x3, x4⟩, -⟩ := HN2.out.all5
    clear hgood k2
    go_wp2_with fail
    have HF5 := Lib.hid (fun W (k : Keeps (fun _ => False) w2 W) => (HN2.out.keeps k id).all5.1)
    obtain ⟨fb, hfb⟩ : ∃ fb, fb = [s0, s1].all fitsB := ⟨_, rfl⟩
    rw [← hfb] at HFT2
    go_region_held3 (fun W => (W.cell? ⟨w.heap.size, 0, none⟩ = some (.string rk) ∧ W.cell? ⟨w.heap.size, 1, none⟩ = some (.slice (some ⟨ab, ao, none⟩) 3 rc) ∧ W.cell? ⟨w.heap.size, 2, none⟩ = some (.bool rb) ∧ W.cell? ⟨w.heap.size, 3, none⟩ = some (.slice rla rln rlc) ∧ W.cell? ⟨w.heap.size, 4, none⟩ = some (.int .i64 rli)))
      (first | exact HF5.out _ (Keeps.refl _ _).drew | exact HF5.out _ kk)
      ((go_at_call 87; refine (HFT2.out _ HK2.out.drew).mono ?_; rintro e w4 hfp; obtain ⟨v4, hv4, hfq⟩ := err_ret hfp; clear hfp; subst hv4; have kk : Keeps (fun _ => False) w2 w4 := ((Keeps.refl _ _).drew).trans hfq.2.2; have HFP := Lib.hid hfq; clear hfq))
    rename_i hh
    obtain ⟨x0, x1, x2, x3, x4⟩ := hh
    have HK4 := Lib.hid (HK2.out.trans (((Keeps.refl (fun _ => False) w2).drew).trans HFP.out.2.2))
    have HN4 := Lib.hid (HN2.out.keeps (((Keeps.refl (fun _ => False) w2).drew).trans HFP.out.2.2) id)
    cases fb with
    | false =>
      have HE : Hid (O = .inl (3, rli)) := Lib.hid (by
        rw [HO.out, if_neg]
        rw [show (fitsB s0 && fitsB s1) = [s0, s1].all fitsB by simp, ← hfb]; simp)
      obtain ⟨ty, vx, rfl, hc⟩ := HFP.out.2.1 rfl
      have HCh := Lib.hid hc
      clear hc hfb
      go_wp2_with fail
      go_ret
      exact .bad HE.out hline ⟨_, rfl, HCh.out⟩ HK4.out.none_
    | true =>
      obtain rfl := HFP.out.1 rfl
      have HO2 : Hid (O = lvlO c u s0 s1 rli (idx (fun s => decide (s = s2)) levels15)) := Lib.hid (by
        rw [HO.out, if_pos (by rw [show (fitsB s0 && fitsB s1) = [s0, s1].all fitsB by simp, ← hfb])]
        unfold lvlO
        cases idx (fun s => decide (s = s2)) levels15 <;> rfl)
      clear hfb
      go_upto_region 7 with (fail)
      have HF6 := Lib.hid (fun W (k : Keeps (fun _ => False) w4 W) => (⟨(HN4.out.keeps k id).all5.1.2.1, (HAC.out W (HK4.out.trans k)).2.2⟩ : W.cell? ⟨w.heap.size, 1, none⟩ = some (.slice (some ⟨ab, ao, none⟩) 3 rc) ∧ W.cell? ⟨ab, ao + 2, none⟩ = some (.string s2)))
      go_region_held3 (fun W => (W.cell? ⟨w.heap.size, 1, none⟩ = some (.slice (some ⟨ab, ao, none⟩) 3 rc) ∧ W.cell? ⟨ab, ao + 2, none⟩ = some (.string s2)) ∧ Keeps (fun _ => False) w4 W)
        ((refine both15 (HF6.out _) ?_; first | exact (Keeps.refl _ _).drew | exact kk))
        (first
          | (go_at_call 25; rename_i hh _ _; have hk := hh.2; refine (levels_any _).mono ?_; rintro e w5 ⟨⟨kb, rfl, hkb⟩, k5⟩; have kk := hk.trans k5)
          | (go_at_call 90; rename_i hh _ _; have hk := hh.2; refine (sindex_any _ _ _ _ levels15 s2 hkb (by omega)).mono ?_; rintro e w6 ⟨rfl, k6⟩; have kk := hk.trans k6))
      rename_i hh
      have HK6 := Lib.hid (HK4.out.trans hh.2)
      have HN6 := Lib.hid (HN4.out.keeps hh.2 id)
      have hsz6 := HK6.out.size
      obtain ⟨⟨x0, x1, x2, x3, x4⟩, -⟩ := HN6.out.all5
      obtain ⟨y0, y1, y2⟩ := HAC.out _ HK6.out
      have hL6 := HL.out.same HK6.out
      obtain ⟨va, vc, rfl⟩ := hL6.accs.sl
      have HL6 := Lib.hid hL6
      have z3 : w6.cell? ⟨g, 3, none⟩ = some (.slice va c.accs.length vc) := hL6.blk.cell 3
      have hfew := HSE.out.few.2.2.2
      clear hh hkb
      cases hix : idx (fun s => decide (s = s2)) levels15 with
      | none =>
        have HE : Hid (O = .inl (3, rli)) := Lib.hid (by rw [HO2.out, hix]; rfl)
        clear hix hL6
        unfold idxV
        simp only
        go_wp2_with fail
        refine (HW3.out _).mono ?_
        rintro e w7 ⟨⟨v, rfl, hc⟩, k7⟩
        have HCh := Lib.hid hc
        clear hc
        go_wp2_with fail
        go_ret
        exact .bad HE.out hline ⟨_, rfl, HCh.out⟩ (HK6.out.trans k7).none_
      | some k =>
        have hO3 : O = if 4096 ≤ c.accs.length then .inl (15, rli) else .inr ({ c with accs := c.accs ++ [⟨s0, s1, k⟩] }, u) := by rw [HO2.out, hix]; rfl
        have hk0 : ¬ ((k : Int) < 0) := by omega
        clear hix
        unfold idxV
        simp only
        by_cases hmany : 4096 ≤ c.accs.length
        · rw [if_pos hmany] at hO3
          have HE := Lib.hid hO3
          have hm2 : (4096 : Int) ≤ c.accs.length := by omega
          clear hO3 hmany hL6
          go_wp2_with fail
          refine (HW15.out _).mono ?_
          rintro e w7 ⟨⟨v, rfl, hc⟩, k7⟩
          have HCh := Lib.hid hc
          clear hc
          go_wp2_with fail
          go_ret
          exact .bad HE.out hline ⟨_, rfl, HCh.out⟩ (HK6.out.trans k7).none_
        · rw [if_neg hmany] at hO3
          have HE := Lib.hid hO3
          have hm2 : ¬ (4096 : Int) ≤ c.accs.length := by omega
          have HS6 := Lib.hid (HSE.out.addA ⟨s0, s1, k⟩ (by omega))
          have hgl6 := hL6.blk.lt
          have n1 : g ≠ w6.heap.size := by omega
          have n2 : w.heap.size ≠ w6.heap.size := by have := HN6.out.lt; omega
          have n3 : ab ≠ w6.heap.size := by omega
          have hcw := Lib.hid (fun W (k : Keeps (fun i => ∃ cs, Blk w6 i 46 cs) w6 W) => (⟨(hL6.blk.keeps k (fun ⟨_, e⟩ => Blk.ne_ hL6.blk e (by decide) rfl)).cell 3, (hL6.blk.keeps k (fun ⟨_, e⟩ => Blk.ne_ hL6.blk e (by decide) rfl)).frozen 3⟩ : W.cell? ⟨g, 3, none⟩ = some (.slice va c.accs.length vc) ∧ W.frozen? ⟨g, 3, none⟩ = false))
          have f3 := hL6.blk.frozen 3
          have HUS := Lib.hid hL6.accs
          have hBw6 : B ≤ w6.heap.size := by omega
          clear hO3 hmany hL6
          go_wp2_with fail
          go_region_law ((refine step_append_st accR 3 accR_len (by decide) rfl _ _ _ rfl B 46 (.agg #[.string ⟨#[]⟩, .string ⟨#[]⟩, .int .i64 0]) 40 Tryz.underlying26 (by kernel_rfl) rfl (by omega) _ c.accs rfl (by exact OwnS.keeps (S := fun _ => False) HUS.out (by (repeat (first | (with_reducible assumption) | (with_reducible exact Keeps.refl _ _) | refine Keeps.drew ?_ | refine Keeps.drewN ?_ _ | refine Keeps.setCell ?_ (by simp) _ | refine Keeps.setRow ?_ (by simp) _ | refine Keeps.alloc ?_ _))) (fun _ _ _ _ => id)) w6.heap.size 1 ⟨s0, s1, k⟩ rfl (by first | exact Blk.new _ _ _ | exact (Blk.new _ _ _).drew) (accR_one _) (by omega) (by simp; omega) ?_; intro g7 cap7 w7 O7 k7 hat7; have kk7 : Keeps (fun i => ∃ cs, Blk w6 i 46 cs) w6 w7 := (Keeps.and_ (by (repeat (first | (with_reducible assumption) | (with_reducible exact Keeps.refl _ _) | refine Keeps.drew ?_ | refine Keeps.drewN ?_ _ | refine Keeps.setCell ?_ (by simp) _ | refine Keeps.setRow ?_ (by simp) _ | refine Keeps.alloc ?_ _))) k7 (fun i _ h => HUS.out.ownBlk i h)); have kB7 : Keeps (fun i => B ≤ i) w6 w7 := (Keeps.and_ (by (repeat (first | (with_reducible assumption) | (with_reducible exact Keeps.refl _ _) | refine Keeps.drew ?_ | refine Keeps.drewN ?_ _ | refine Keeps.setCell ?_ (by simp) _ | refine Keeps.setRow ?_ (by simp) _ | refine Keeps.alloc ?_ _))) k7 (fun i _ h => (World.ownsRow.lt HUS.out i h).1)); clear k7; obtain ⟨d1, d2⟩ := hcw.out _ kk7))
          all_goals have OO := Lib.hid O7
          all_goals clear O7 hat7
          all_goals go_wp2_with fail
          all_goals go_ret
          all_goals exact .done HE.out (HL6.out.addA kk7 OO.out) HS6.out (Nat.le_succ _) ((HK6.out.none_.trans kB7).and_ (Keeps.set1 w7 g 3 _) (fun i _ e => by subst e; exact HL6.out.hg))
  · have HE : Hid (O = .inl (3, rli)) := Lib.hid (by rw [hO, if_neg (by rw [formP_false (x := .mk rk as_ rb sub rli) (fun h => hfm ⟨by rw [← hal]; exact h.1, h.2⟩)]; simp)]; rfl)
    have HFM := Lib.hid hfm
    clear hO hwa hka hN ha1 hsz hfm hFM hal hL hSeen hin
    go_enter Tryz.func51, Tryz.ntmps51
    go_wp2_with fail
    rw [← HWA.out]
    refine (HF.out _).mono ?_
    rintro e w2 ⟨-, hbad, k2⟩
    obtain ⟨v, rfl, hc⟩ := hbad HFM.out
    obtain ⟨ty, vx, rfl⟩ := hc.form
    have HCh := Lib.hid hc
    have HK2 := Lib.hid (HKA.out.trans k2)
    clear hbad k2 hc
    go_wp2_with fail
    go_ret
    exact .bad HE.out hline ⟨_, rfl, HCh.out⟩ HK2.out.none_
end Go.Proofs.YtfpajgmdejlaeaaGreatDoor
