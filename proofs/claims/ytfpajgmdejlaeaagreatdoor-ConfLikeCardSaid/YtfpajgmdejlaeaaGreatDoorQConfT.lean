/-
  conf: statement.
-/
import Derived.Test.YtfpajgmdejlaeaaGreatDoorQConfQ
import Derived.Test.YtfpajgmdejlaeaaGreatDoorQConfR
import Derived.Test.YtfpajgmdejlaeaaGreatDoorQConfS
namespace Go.Proofs.YtfpajgmdejlaeaaGreatDoor
open Go.RowKit Go.Maps

theorem SetsPost.ret {O : (Int × Int) ⊕ Con} {key : ByteArray} {w w' : World} {T : TypeId} {b o : Nat} {cs : Array Value} {e : Ending} (h : SetsPost O key w T b o cs e w') : ∃ v, e = .returned v ∧ SetsPost O key w T b o cs (.returned v) w' := by
  cases O with
  | inl c => obtain ⟨v, k2, rfl, hc⟩ := h.2.1 c.1 c.2 rfl; exact ⟨v, rfl, h⟩
  | inr y => obtain ⟨rfl, -⟩ := h.1 y rfl; exact ⟨_, rfl, h⟩
theorem StmtPost.def_ {O : (Int × Int) ⊕ (Cf × Con)} {R : (Int × Int) ⊕ Con} {w w2 w3 : World} {g M B : Nat} {cv gv uv av : Value} {b0 b1 b2 b3 b4 b5 b6 b7 b8 b9 : ByteArray} {c : Cf} {u : Con} {ks : List SK} {key : ByteArray} {e : Ending} (hO : O = (match R with | .inl e => .inl e | .inr y => .inr (c, y))) (hR : ∀ cd ln, R = .inl (cd, ln) → 0 < ln)
    (hL : Ld w2 g M B cv gv uv av b0 b1 b2 b3 b4 b5 b6 b7 b8 b9 c u ks) (hS : Seen c ks) (k2 : Keeps (fun _ => False) w w2) (h : SetsPost R key w2 57 g 14 (ldL cv gv uv av b0 b1 b2 b3 b4 b5 b6 b7 b8 b9 u M).toArray e w3) : StmtPost O g M B ks.length w e w3 := by
  have kB : Keeps (fun i => B ≤ i) w w3 := k2.none_.and_ h.2.2 (fun i _ e => by subst e; exact hL.hg)
  cases R with
  | inl e1 =>
    obtain ⟨cd, ln⟩ := e1
    have hl := hR cd ln rfl
    subst hO
    refine ⟨fun c' u' h' => (by cases h'), fun cd' ln' h' => ?_, kB⟩
    injection h' with h'
    injection h' with h1 h2
    subst h1 h2
    obtain ⟨v, k2, rfl, hc⟩ := h.2.1 _ _ rfl
    exact ⟨v, _, rfl, hc, by simp [lineOf, hl]⟩
  | inr y =>
    obtain ⟨rfl, cs', hc, hb⟩ := h.1 y rfl
    exact .done hO (hL.setU h.2.2 hc hb) hS (Nat.le_succ _) kB
theorem stmtS_group {c : Cf} {u : Con} {x : Nd} (h : keyN x = kGroup) : stmtS c u x = groupS c u x := by unfold stmtS; rw [if_neg (by rw [h]; decide), if_pos h]; rfl
set_option maxRecDepth 100000 in
set_option maxHeartbeats 2000000 in
theorem stmt_any (w : World) (S : Nat → Prop) (x : Nd) (r : NdV) (hM : NdM w S x r) (hline : 0 < lineN x) (hmany : (argsN x).length ≤ 1099511627776) (hsz : ∀ s ∈ argsN x, s.size ≤ 1073741824) (hsub : ∀ y ∈ subN x, 0 < lineN y ∧ ∀ s ∈ argsN y, s.size ≤ 1073741824)
    (g M B : Nat) (cv gv uv av : Value) (b0 b1 b2 b3 b4 b5 b6 b7 b8 b9 : ByteArray) (c : Cf) (u : Con) (ks : List SK) (hL : Ld w g M B cv gv uv av b0 b1 b2 b3 b4 b5 b6 b7 b8 b9 c u ks) (hSeen : Seen c ks) (hks : ks.length ≤ 1099511627776) (hSB : ∀ i, S i → i < B) (hBw : B ≤ w.heap.size) :
    Calls Tryz.prog 21 #[.pointer (some ⟨g, 0, none⟩), .agg (ndR r).toArray] w (StmtPost (stmtS c u x) g M B ks.length w) := by
  have hkr : r.key = keyN x := by obtain ⟨_, _, _, _, _⟩ := x; rw [NdM] at hM; exact hM.1
  have hlr : r.line = lineN x := by obtain ⟨_, _, _, _, _⟩ := x; rw [NdM] at hM; exact hM.2.2.1
  have hbr : r.an = (argsN x).length ∧ r.block = blkN x := by obtain ⟨_, _, _, _, _⟩ := x; rw [NdM] at hM; exact ⟨hM.2.2.2.1.1.1.symm, hM.2.1⟩
  have HW3 := Lib.hid (fun W => wrong_any W 3 r (by decide))
  have HF := Lib.hid (fun W => form_any W r 0 true (by omega))
  have hm2 : ∀ {W}, Keeps (fun _ => False) w W → NdM W S x r := fun k => NdM.keeps k (fun _ _ _ => id) _ _ hM
  have Hconsole := Lib.hid (fun W (kk : Keeps (fun _ => False) w W) hkey => console_any W S x r (hm2 kk) hkey hline hsz hsub g M B cv gv uv av b0 b1 b2 b3 b4 b5 b6 b7 b8 b9 c u ks (hL.same kk) hSeen hks hSB (Nat.le_trans hBw kk.size))
  have Hgroup := Lib.hid (fun W (kk : Keeps (fun _ => False) w W) hkey => group_any W S x r (hm2 kk) hkey hline hmany hsz g M B cv gv uv av b0 b1 b2 b3 b4 b5 b6 b7 b8 b9 c u ks (hL.same kk) hSeen hks hSB (Nat.le_trans hBw kk.size))
  have Huser := Lib.hid (fun W (kk : Keeps (fun _ => False) w W) hkey => user_any W S x r (hm2 kk) hkey hline hsz g M B cv gv uv av b0 b1 b2 b3 b4 b5 b6 b7 b8 b9 c u ks (hL.same kk) hSeen hks hSB (Nat.le_trans hBw kk.size))
  have Haccess := Lib.hid (fun W (kk : Keeps (fun _ => False) w W) => access_any W S x r (hm2 kk) hline hsz g M B cv gv uv av b0 b1 b2 b3 b4 b5 b6 b7 b8 b9 c u ks (hL.same kk) hSeen hSB (Nat.le_trans hBw kk.size))
  have Hbreak := Lib.hid (fun W (kk : Keeps (fun _ => False) w W) => breaks_any W S x r (hm2 kk) hline hsz g M B cv gv uv av b0 b1 b2 b3 b4 b5 b6 b7 b8 b9 c u ks (hL.same kk) hSeen hSB (Nat.le_trans hBw kk.size))
  obtain ⟨ca, cc, hcv⟩ := hL.cons.sl
  subst hcv
  have hfew := hSeen.few.1
  have HST := Lib.hid (fun W (kk : Keeps (fun _ => False) w W) => csettings_any W S x r (hm2 kk) (fun y hy => (hsub y hy).2) 57 g 14 u _ (hL.same kk).usual (fun i hi => by have := hSB i hi; have := hL.hg; omega) g ca c.cons.length cc gv uv av b0 b1 b2 b3 b4 b5 b6 b7 b8 b9 c.cons ((hL.same kk).looks hfew).1 (fun hp => by obtain ⟨b, off, e, -, -, cs, hb⟩ := ((hL.same kk).looks hfew).2 hp; exact ⟨b, off, e, Blk.ne_ hb (hL.same kk).blk (by decide)⟩) (.inr rfl))
  have HLINE := Lib.hid (fun cd ln => setsS_line (subN x) c.cons u cd ln (fun y hy => (hsub y hy).1))
  obtain ⟨O, hO⟩ : ∃ O, O = stmtS c u x := ⟨_, rfl⟩
  rw [← hO]
  have HO := Lib.hid hO
  have HSE := Lib.hid hSeen
  have HL := Lib.hid hL
  obtain ⟨rk, ra, rn, rc, rb, rla, rln, rlc, rli⟩ := r
  simp only at hkr hlr hbr
  have HKR := Lib.hid hkr
  rw [← hkr] at HST Hconsole Hgroup Huser
  rw [← hlr] at hline
  have HLR := Lib.hid hlr
  have HBR := Lib.hid hbr
  simp only [ndR] at HW3 HF HST Hconsole Hgroup Huser Haccess Hbreak ⊢
  obtain ⟨wa, hwa⟩ : ∃ wa, wa = w.alloc (.cells #[.string rk, .slice ra rn rc, .bool rb, .slice rla rln rlc, .int .i64 rli] 60) := ⟨_, rfl⟩
  have hka : Keeps (fun _ => False) w wa := by rw [hwa]; exact (Keeps.refl _ _).alloc _
  have hN : Blk wa w.heap.size 60 #[.string rk, .slice ra rn rc, .bool rb, .slice rla rln rlc, .int .i64 rli] := by rw [hwa]; exact Blk.new _ _ _
  have HWA := Lib.hid hwa
  have HKA := Lib.hid hka
  have HN := Lib.hid hN
  obtain ⟨⟨x0, x1, x2, x3, x4⟩, -⟩ := hN.all5
  clear hO hL hM hm2 hsz hsub hkr hlr hbr hwa hka hN hSeen hSB hfew hmany
  by_cases hconsole : rk = kConsole
  · have HO2 := Lib.hid (HO.out.trans (stmtS_console (by have := HKR.out; rw [← this]; exact hconsole)))
    have HH := Lib.hid (fun W kk => Hconsole.out W kk hconsole)
    obtain rfl := hconsole
    unfold kConsole at *
    go_enter Tryz.func21, Tryz.ntmps21
    go_wp2_with fail
    rw [← HWA.out]
    go_wp2_with fail
    refine (HH.out _ HKA.out).mono ?_
    rintro e w3 hsp
    obtain ⟨v3, rfl, hsp⟩ := hsp.ret
    have HSP := Lib.hid hsp
    clear hsp
    go_wp2_with fail
    go_ret
    exact HSP.out.from_ HKA.out HO2.out
  · by_cases hgroup : rk = kGroup
    · have HO2 := Lib.hid (HO.out.trans (stmtS_group (by have := HKR.out; rw [← this]; exact hgroup)))
      have HH := Lib.hid (fun W kk => Hgroup.out W kk hgroup)
      obtain rfl := hgroup
      unfold kGroup at *
      go_enter Tryz.func21, Tryz.ntmps21
      go_wp2_with fail
      rw [← HWA.out]
      go_wp2_with fail
      refine (HH.out _ HKA.out).mono ?_
      rintro e w3 hsp
      obtain ⟨v3, rfl, hsp⟩ := hsp.ret
      have HSP := Lib.hid hsp
      clear hsp
      go_wp2_with fail
      go_ret
      exact HSP.out.from_ HKA.out HO2.out
    · by_cases huser : rk = kUser
      · have HO2 := Lib.hid (HO.out.trans (stmtS_user (by have := HKR.out; rw [← this]; exact huser)))
        have HH := Lib.hid (fun W kk => Huser.out W kk huser)
        obtain rfl := huser
        unfold kUser at *
        go_enter Tryz.func21, Tryz.ntmps21
        go_wp2_with fail
        rw [← HWA.out]
        go_wp2_with fail
        refine (HH.out _ HKA.out).mono ?_
        rintro e w3 hsp
        obtain ⟨v3, rfl, hsp⟩ := hsp.ret
        have HSP := Lib.hid hsp
        clear hsp
        go_wp2_with fail
        go_ret
        exact HSP.out.from_ HKA.out HO2.out
      · by_cases haccess : rk = kAccess
        · have HO2 := Lib.hid (HO.out.trans (stmtS_access (by have := HKR.out; rw [← this]; exact haccess)))
          have HH := Lib.hid (fun W kk => Haccess.out W kk)
          obtain rfl := haccess
          unfold kAccess at *
          go_enter Tryz.func21, Tryz.ntmps21
          go_wp2_with fail
          rw [← HWA.out]
          go_wp2_with fail
          refine (HH.out _ HKA.out).mono ?_
          rintro e w3 hsp
          obtain ⟨v3, rfl, hsp⟩ := hsp.ret
          have HSP := Lib.hid hsp
          clear hsp
          go_wp2_with fail
          go_ret
          exact HSP.out.from_ HKA.out HO2.out
        · by_cases hbreak : rk = kBreak
          · have HO2 := Lib.hid (HO.out.trans (stmtS_break (by have := HKR.out; rw [← this]; exact hbreak)))
            have HH := Lib.hid (fun W kk => Hbreak.out W kk)
            obtain rfl := hbreak
            unfold kBreak at *
            go_enter Tryz.func21, Tryz.ntmps21
            go_wp2_with fail
            rw [← HWA.out]
            go_wp2_with fail
            refine (HH.out _ HKA.out).mono ?_
            rintro e w3 hsp
            obtain ⟨v3, rfl, hsp⟩ := hsp.ret
            have HSP := Lib.hid hsp
            clear hsp
            go_wp2_with fail
            go_ret
            exact HSP.out.from_ HKA.out HO2.out
          · by_cases hdefault : rk = kDefault
            · have HO2 := Lib.hid (HO.out.trans (stmtS_default (by have := HKR.out; rw [← this]; exact hdefault)))
              obtain rfl := hdefault
              unfold kDefault at *
              by_cases hfm : rn = 0 ∧ rb = true
              · have HO3 : Hid (O = (match setsS c.cons u (subN x) with | .inl e => .inl e | .inr y => .inr (c, y))) := Lib.hid (by
                  rw [HO2.out]
                  unfold defS
                  rw [if_pos (formP_true ⟨by rw [← HBR.out.1]; exact hfm.1, by rw [← HBR.out.2]; exact hfm.2⟩)]
                  cases setsS c.cons u (subN x) <;> rfl)
                have HFM := Lib.hid hfm
                clear hfm
                go_enter Tryz.func21, Tryz.ntmps21
                go_wp2_with fail
                rw [← HWA.out]
                go_wp2_with fail
                refine (HF.out _).mono ?_
                rintro e w2 ⟨hgood, -, k2⟩
                obtain rfl := hgood HFM.out
                have HK2 := Lib.hid (HKA.out.trans k2)
                have HN2 := Lib.hid (HN.out.keeps k2 id)
                obtain ⟨⟨x0, x1, x2, x3, x4⟩, -⟩ := HN2.out.all5
                have HNG : Hid (w.heap.size ≠ g) := Lib.hid (by have := HL.out.blk.lt; omega)
                have HF5 := Lib.hid (fun W (k : Keeps (fun i => i = g) w2 W) => (HN2.out.keeps k HNG.out).all5.1)
                clear hgood k2
                go_wp2_with fail
                go_region_held3 (fun W => (W.cell? ⟨w.heap.size, 0, none⟩ = some (.string ⟨#[100, 101, 102, 97, 117, 108, 116]⟩) ∧ W.cell? ⟨w.heap.size, 1, none⟩ = some (.slice ra rn rc) ∧ W.cell? ⟨w.heap.size, 2, none⟩ = some (.bool rb) ∧ W.cell? ⟨w.heap.size, 3, none⟩ = some (.slice rla rln rlc) ∧ W.cell? ⟨w.heap.size, 4, none⟩ = some (.int .i64 rli)))
                  (first | exact HF5.out _ (Keeps.refl _ _).drew | exact HF5.out _ kk)
                  ((go_at_call 54; refine (HST.out _ HK2.out.drew).mono ?_; rintro e w3 hsp; obtain ⟨v3, rfl, hsp⟩ := SetsPost.ret hsp; have kk : Keeps (fun i => i = g) w2 w3 := ((Keeps.refl _ _).drew).trans hsp.2.2; have HSP := Lib.hid hsp; clear hsp))
                go_wp2_with fail
                go_ret
                exact StmtPost.def_ HO3.out HLINE.out (HL.out.same HK2.out.drew) HSE.out HK2.out.drew HSP.out
              · have HE : Hid (O = .inl (3, rli)) := Lib.hid (by
                  rw [HO2.out]
                  unfold defS
                  rw [formP_false (fun h => hfm ⟨by rw [HBR.out.1]; exact h.1, by rw [HBR.out.2]; exact h.2⟩), ← HLR.out]
                  rfl)
                have HFM := Lib.hid hfm
                clear hfm
                go_enter Tryz.func21, Tryz.ntmps21
                go_wp2_with fail
                rw [← HWA.out]
                go_wp2_with fail
                refine (HF.out _).mono ?_
                rintro e w2 ⟨-, hbad, k2⟩
                obtain ⟨v, rfl, hc⟩ := hbad HFM.out
                obtain ⟨ty, vx, rfl⟩ := hc.form
                have HCh := Lib.hid hc
                have HK2 := Lib.hid (HKA.out.trans k2)
                clear hbad k2 hc
                go_wp2_with fail
                go_ret
                exact .bad HE.out hline ⟨_, rfl, HCh.out⟩ HK2.out.none_
            · have HE : Hid (O = .inl (3, rli)) := Lib.hid (by
                rw [HO.out, stmtS_else (fun k hk => ?_), ← HLR.out]
                rw [← HKR.out]
                simp only [List.mem_cons, List.not_mem_nil, or_false] at hk
                rcases hk with rfl | rfl | rfl | rfl | rfl | rfl <;> assumption)
              have q1 := lit_ne [99, 111, 110, 115, 111, 108, 101] hconsole
              have q2 := lit_ne [103, 114, 111, 117, 112] hgroup
              have q3 := lit_ne [117, 115, 101, 114] huser
              have q4 := lit_ne [97, 99, 99, 101, 115, 115] haccess
              have q5 := lit_ne [98, 114, 101, 97, 107] hbreak
              have q6 := lit_ne [100, 101, 102, 97, 117, 108, 116] hdefault
              clear hconsole hgroup huser haccess hbreak hdefault
              go_enter Tryz.func21, Tryz.ntmps21
              go_wp2_with fail
              rw [← HWA.out]
              go_wp2_with fail
              refine (HW3.out _).mono ?_
              rintro e w6 ⟨⟨v, rfl, hc⟩, k6⟩
              have HCh := Lib.hid hc
              have HK6 := Lib.hid (HKA.out.trans k6)
              clear hc k6
              go_wp2_with fail
              go_ret
              exact .bad HE.out hline ⟨_, rfl, HCh.out⟩ HK6.out.none_
end Go.Proofs.YtfpajgmdejlaeaaGreatDoor
