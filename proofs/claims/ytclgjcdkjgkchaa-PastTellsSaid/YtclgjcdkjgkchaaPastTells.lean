/-
  PastTells returns true, whatever its arguments: the walk.
-/
import Derived.Test.YtclgjcdkjgkchaaPastNone
import Derived.Test.YtclgjcdkjgkchaaRef05
import Derived.Test.YtclgjcdkjgkchaaArgs
namespace Go.Proofs.Ytclgjcdkjgkchaa
open Go.RowKit

set_option maxRecDepth 100000 in
set_option maxHeartbeats 4000000 in
theorem pastTells_walk (w : World) (most : Int) (a : Option Addr) (n cap : Nat) (l : List ByteArray) (x y L : Int) (hmost : (Lit.int .u8 most).wf = true) (hl : SlAt strR 1 w a n l ∧ ∀ s ∈ l, s.size ≤ maxLen)
    (_hx : (Lit.int .i64 x).wf = true) (_hy : (Lit.int .i64 y).wf = true) (_hL : (Lit.int .i64 L).wf = true) :
    Calls Try.prog 6 #[.int .u8 most, .slice a n cap, .int .i64 x, .int .i64 y, .int .i64 L] w fun e w' => e = .returned (.bool true) ∧ Keeps (fun _ => False) w w' := by
  have hm0 : 0 ≤ most ∧ most ≤ 255 := by simpa [Lit.wf, IntKind.min, IntKind.max, IntKind.signed, IntKind.bits] using hmost
  obtain ⟨m0, rfl⟩ := Int.eq_ofNat_of_zero_le hm0.1
  have hm1 : m0 ≤ 255 := by omega
  clear hmost hm0
  have hn := pnew_ok w (m0 + 1) (by omega) (by omega)
  rw [show ((m0 + 1 : Nat) : Int) = (m0 : Int) + 1 from by simp] at hn
  have Hn := Lib.hid hn
  clear hn
  obtain ⟨hl1, hl2⟩ := hl
  have hln := hl1.1
  by_cases hbig : 30 < n ∨ 1099511627776 < L ∨ L < -1099511627776
  · rcases (show 30 < n ∨ (n ≤ 30 ∧ 1099511627776 < L) ∨ (n ≤ 30 ∧ L ≤ 1099511627776 ∧ L < -1099511627776) from by omega) with h1 | ⟨h1, h2⟩ | ⟨h1, h2, h3⟩
    all_goals
      go_enter Try.func6, Try.ntmps6
      go_wp2_with (first | (go_at_call 25; refine Hn.out.mono ?_; rintro e w1 ⟨p, g, b, rfl, hp, hg, hb, k1, r1⟩) | (go_at_call 26; refine (works31 _).mono ?_; rintro e w2 ⟨rfl, k2⟩))
      go_ret
      exact ⟨rfl, k1.trans k2⟩
  · have hb1 : n ≤ 30 := by omega
    have hb2 : L ≤ 1099511627776 := by omega
    have hb3 : -1099511627776 ≤ L := by omega
    clear hbig
    go_enter Try.func6, Try.ntmps6
    go_wp2_with (first | (go_at_call 25; refine Hn.out.mono ?_; rintro e w1 ⟨p, g, b, rfl, hp, hg, hb, k1, r1⟩))
    go_loopw [14, 15, 16, 17, 18, 19] (fun u14 u15 u16 u17 u18 u19 wr => ∃ (k : Nat) (all : ByteArray), k ≤ n ∧ u15 = .int .i64 k ∧ u14 = .string all ∧ all.size ≤ 60 * k ∧ IsPast wr p g b (m0 + 1) all.data.toList ∧ Keeps (fun _ => False) w wr)
      (fun _ u15 _ _ _ _ _ => n - (intOf u15).toNat)
    case atStart => exact ⟨0, ⟨#[]⟩, by omega, rfl, rfl, by decide, r1, k1⟩
    case round =>
      obtain ⟨k, all, hk, rfl, rfl, hsz, hP, hK⟩ := hrel
      by_cases hlt : k < n
      · obtain ⟨s, hs⟩ : ∃ s, l[k]? = some s := ⟨l[k]'(by omega), List.getElem?_eq_getElem (by omega)⟩
        have hlt0 : ∀ i, i < w.heap.size → (i = p ∨ i = g ∨ i = b) → False := fun i hi h => by omega
        obtain ⟨b2, off, rfl, hb4, hc⟩ := hl1.2 (by omega)
        have hcell := SlAt.str hc k s hs
        clear hc
        have hcr : ∀ w', Keeps (fun _ => False) w w' → w'.cell? ⟨b2, off + k, none⟩ = some (.string s) := fun w' kk => (World.cell?_of_block (w := w) (kk.block b2 hb4 id)).trans hcell
        have c1 := hcr wr hK
        have HCR := Lib.hid hcr
        clear hcr hcell
        by_cases hbs : 60 < s.size
        · go_wp2_with (go_at_call 26; refine (works31 _).mono ?_; rintro e w2 ⟨rfl, k2⟩)
          go_ret
          exact ⟨rfl, hK.trans k2⟩
        · have hbs2 : s.size ≤ 60 := by omega
          clear hbs
          obtain ⟨all2, hall⟩ : ∃ all2, all ++ s = all2 := ⟨_, rfl⟩
          have hsz2 : all2.size = all.size + s.size := by rw [← hall]; simp
          have hdat : all2.data.toList = all.data.toList ++ s.data.toList := by rw [← hall, append_str]
          have hlen : all2.data.toList.length = all2.size := by simp
          have hal : all.data.toList.length = all.size := by simp
          have HD := Lib.hid hdat
          have HLn := Lib.hid hlen
          have HAl := Lib.hid hal
          have hm3 : all2.size ≤ 60 * (k + 1) := by omega
          clear hsz2 hdat hlen hal
          have hF : ∀ W, Calls Try.prog 29 #[.string all2, .int .i64 ((m0 : Int) + 1)] W (Qt (.int .i64 (all2.size - (m0 + 1) : Nat)) W) := fun W => by
            have := from_any W all2 (m0 + 1) (by omega) (by omega)
            rw [show ((m0 + 1 : Nat) : Int) = (m0 : Int) + 1 from by simp] at this
            exact this
          obtain ⟨R, hR⟩ : ∃ R, R = (all2.size - (m0 + 1)) + backN (all2.data.toList.drop (all2.size - (m0 + 1))) (all2.size - (all2.size - (m0 + 1))) L.toNat := ⟨_, rfl⟩
          have hB : ∀ W, Calls Try.prog 33 #[.string all2, .int .i64 ((m0 : Int) + 1), .int .i64 L] W fun e w' => e = .returned (.int .i64 R) ∧ Keeps (fun _ => False) W w' := fun W => by
            have := rback_any W all2 ((m0 : Int) + 1) L (by omega) (by omega) (by omega) ⟨hb3, hb2⟩
            rw [show ((m0 : Int) + 1).toNat = m0 + 1 by omega, ← hR] at this
            exact this
          have hP2 : ∀ W, IsPast W p g b (m0 + 1) all2.data.toList → Calls Try.prog 32 #[.pointer (some ⟨p, 0, none⟩), .int .i64 L] W fun e w' => e = .returned (.int .i64 R) ∧ Keeps (fun _ => False) W w' := fun W hW => by
            have := pback_yes W p g b (m0 + 1) all2.data.toList L hW (by rw [HLn.out]; omega) (by omega)
            rw [HLn.out, ← hR] at this
            exact this
          have HF := Lib.hid hF
          have HB := Lib.hid hB
          have HP2 := Lib.hid hP2
          clear hF hB hP2 hR
          obtain ⟨F, hFd⟩ : ∃ F, F = all2.size - (m0 + 1) := ⟨_, rfl⟩
          rw [← hFd] at HF
          have HFd := Lib.hid hFd
          have hFs : F ≤ all2.size := by omega
          clear hFd
          by_cases hc : F ≤ x ∧ x ≤ y ∧ y ≤ all2.size
          · obtain ⟨hc1, hc2, hc3⟩ := hc
            have hc4 : 0 ≤ x := by omega
            have hc5 : 0 ≤ y := by omega
            go_wp2_with (first | (go_at_call 27; go_must (refine (padd_any wr p g b (m0 + 1) _ s hP (by unfold maxLen; omega) (by rw [HAl.out]; omega)).mono ?_; rintro e w2 ⟨rfl, k2, r2⟩; rw [← HD.out] at r2; have K2 := hK.and_ k2 hlt0; have c2 := HCR.out w2 K2)) | (go_at_call 28; go_must (refine (pslice_by _ p g b (m0 + 1) _ x y r2 (by rw [HLn.out]; omega) (all2.extract x.toNat y.toNat) true (fun _ => ⟨rfl, (cut_text all2 x.toNat y.toNat (by omega)).symm⟩) (fun h => (h (by rw [HLn.out, ← HFd.out]; omega)).elim)).mono ?_; rintro e w3 ⟨rfl, k3⟩; have r3 := r2.keeps k3 id id id; have K3 := K2.trans k3)) | (go_at_call 29; go_must (refine (Qt.k (HF.out _)).mono ?_; rintro e w4 ⟨rfl, k4⟩; have r4 := r3.keeps k4 id id id; have K4 := K3.trans k4)) | (go_at_call 30; go_must (refine (Qt.k (pcame_yes _ p g b (m0 + 1) _ r4)).mono ?_; rw [HLn.out]; rintro e w5 ⟨rfl, k5⟩; have r5 := r4.keeps k5 id id id; have K5 := K4.trans k5)) | (go_at_call 31; go_must (refine (Qt.k (pfrom_yes _ p g b (m0 + 1) _ r5 (by rw [HLn.out]; omega))).mono ?_; rw [HLn.out, ← HFd.out]; rintro e w6 ⟨rfl, k6⟩; have r6 := r5.keeps k6 id id id; have K6 := K5.trans k6)) | (go_at_call 32; go_must (refine (HP2.out _ r6).mono ?_; rintro e w7 ⟨rfl, k7⟩; have r7 := r6.keeps k7 id id id; have K7 := K6.trans k7)) | (go_at_call 33; go_must (refine (HB.out _).mono ?_; rintro e w8 ⟨rfl, k8⟩; have r8 := r7.keeps k8 id id id; have K8 := K7.trans k8)))
            go_roundw
            case rel => exact ⟨k + 1, all2, by omega, by go_num, rfl, hm3, r8, K8⟩
            case measure => simp [intOf]; omega
          · have hq : ¬ (((all2.data.toList.length - (m0 + 1) : Nat) : Int) ≤ x ∧ x ≤ y ∧ y ≤ (all2.data.toList.length : Int)) := by rw [HLn.out, ← HFd.out]; exact hc
            have HQ := Lib.hid hq
            clear hq
            rcases (show x < F ∨ ((F : Int) ≤ x ∧ y < x) ∨ ((F : Int) ≤ x ∧ x ≤ y ∧ (all2.size : Int) < y) from by omega) with h1 | ⟨h1, h2⟩ | ⟨h1, h2, h3⟩
            all_goals
              clear hc
              go_wp2_with (first | (go_at_call 27; go_must (refine (padd_any wr p g b (m0 + 1) _ s hP (by unfold maxLen; omega) (by rw [HAl.out]; omega)).mono ?_; rintro e w2 ⟨rfl, k2, r2⟩; rw [← HD.out] at r2; have K2 := hK.and_ k2 hlt0; have c2 := HCR.out w2 K2)) | (go_at_call 28; go_must (refine (pslice_by _ p g b (m0 + 1) _ x y r2 (by rw [HLn.out]; omega) (⟨#[]⟩) false (fun h => (HQ.out h).elim) (fun _ => ⟨rfl, rfl⟩)).mono ?_; rintro e w3 ⟨rfl, k3⟩; have r3 := r2.keeps k3 id id id; have K3 := K2.trans k3)) | (go_at_call 29; go_must (refine (Qt.k (HF.out _)).mono ?_; rintro e w4 ⟨rfl, k4⟩; have r4 := r3.keeps k4 id id id; have K4 := K3.trans k4)) | (go_at_call 30; go_must (refine (Qt.k (pcame_yes _ p g b (m0 + 1) _ r4)).mono ?_; rw [HLn.out]; rintro e w5 ⟨rfl, k5⟩; have r5 := r4.keeps k5 id id id; have K5 := K4.trans k5)) | (go_at_call 31; go_must (refine (Qt.k (pfrom_yes _ p g b (m0 + 1) _ r5 (by rw [HLn.out]; omega))).mono ?_; rw [HLn.out, ← HFd.out]; rintro e w6 ⟨rfl, k6⟩; have r6 := r5.keeps k6 id id id; have K6 := K5.trans k6)) | (go_at_call 32; go_must (refine (HP2.out _ r6).mono ?_; rintro e w7 ⟨rfl, k7⟩; have r7 := r6.keeps k7 id id id; have K7 := K6.trans k7)) | (go_at_call 33; go_must (refine (HB.out _).mono ?_; rintro e w8 ⟨rfl, k8⟩; have r8 := r7.keeps k8 id id id; have K8 := K7.trans k8)))
              go_roundw
              case rel => exact ⟨k + 1, all2, by omega, by go_num, rfl, hm3, r8, K8⟩
              case measure => simp [intOf]; omega
      · have hk2 : k = n := by omega
        go_wp2_with (go_at_call 26; refine (works31 _).mono ?_; rintro e w2 ⟨rfl, k2⟩)
        go_ret
        exact ⟨rfl, hK.trans k2⟩
end Go.Proofs.Ytclgjcdkjgkchaa
