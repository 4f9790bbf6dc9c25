/-
  sum: a sum as bytes; record: which items may be, and an item as bytes.
-/
import Derived.Test.YtdbnalocmjkncaaGreatQGround3
namespace Go.Proofs.YtdbnalocmjkncaaGreat
open Go.RowKit

theorem bv_fill (L : List UInt8) (i : Nat) (c : UInt8) (x : Int) (hx : (c.toNat : Int) = x) : (bv L).setIfInBounds i (.int .u8 x) = bv (L.set i c) := by
  subst hx
  unfold bv
  simp [List.map_set]
theorem high_byte {n x : Nat} (hn : n ≤ 2147483646) (h : (x : Int) = (n : Int) / 2 ^ (8 * 3) % 256) : (x : Int) = (n : Int) / 16777216 := by
  have e : ((2 : Int) ^ (8 * 3)) = 16777216 := by decide
  rw [e] at h
  omega
/-- a row of four bytes, of which the last i are those of n -/
def rowP (i n : Nat) : List UInt8 := List.replicate (4 - i) 0 ++ beP i n
theorem rowP_step (i n : Nat) (hi : i < 4) : rowP (i + 1) n = (rowP i n).set (3 - i) (UInt8.ofNat (n / 256 ^ i % 256)) := by
  unfold rowP
  rw [beP_cons]
  have e : 4 - i = (3 - i) + 1 := by omega
  rw [show 4 - (i + 1) = 3 - i by omega, e, List.replicate_succ', List.append_assoc, List.set_append_right _ _ (by simp)]
  simp
set_option maxRecDepth 100000 in
set_option maxHeartbeats 1000000 in
theorem sput_any (w : World) (n : Nat) (hn : n ≤ 2147483646) : Calls Tryz.prog 99 #[.int .i64 n] w fun e w' => e = .returned (.string (str (beP 4 n))) ∧ Keeps (fun _ => False) w w' := by
  have HI := Lib.hid (sin_any w n hn)
  go_enter Tryz.func99, Tryz.ntmps99
  go_wp2_with fail
  refine HI.out.mono ?_
  rintro e w1 ⟨rfl, hw⟩
  obtain rfl : w = w1 := hw.symm
  go_wp2_with (with_reducible show wpList _ _ _ (⟨some 8, _, _, _, _, _⟩ :: _) _ _; go_must (refine wpList_make_bytes _ rfl _ _ _ rfl 5 Tryz.underlying115 (by kernel_rfl) 4 4 rfl rfl (by omega) (by omega) ?_; intro w2 hm; have HM := Lib.hid hm; clear hm))
  have hb0 : Blk w2 w.heap.size 5 (bv (rowP 0 n)) := HM.out.blk
  have hk0 := HM.out.keeps (Keeps.refl (fun _ => False) w)
  obtain ⟨g, hg⟩ : ∃ g, g = w.heap.size := ⟨_, rfl⟩
  rw [← hg] at hb0 ⊢
  have HB0 := Lib.hid hb0
  have HK0 := Lib.hid hk0
  have HG := Lib.hid hg
  clear hb0 hk0 hg HM
  go_loopw [9] (fun u9 wr => ∃ i : Nat, u9 = .int .i64 i ∧ i ≤ 4 ∧ Hid (Blk wr g 5 (bv (rowP i n)) ∧ Keeps (fun _ => False) w wr)) (fun u9 _ => 4 - (intOf u9).toNat)
  case atStart => exact ⟨0, rfl, by omega, Lib.hid ⟨HB0.out, HK0.out⟩⟩
  case round =>
    obtain ⟨i, rfl, hi, HH⟩ := hrel
    rename World => wr
    by_cases h4 : i < 4
    · have hst := rowP_step i n h4
      have hcv := byte_shr n i
      obtain ⟨c, hc⟩ : ∃ c, c = UInt8.ofNat (n / 256 ^ i % 256) := ⟨_, rfl⟩
      rw [← hc] at hst hcv
      have HST := Lib.hid hst
      have HCV := Lib.hid hcv
      have hlen : (rowP i n).length = 4 := by unfold rowP; rw [List.length_append, List.length_replicate, beP_len]; omega
      have hcell : ∀ k, k < 4 → ∃ u, wr.cell? ⟨g, k, none⟩ = some u ∧ wr.frozen? ⟨g, k, none⟩ = false := fun k hk => by
        have := HH.out.1.cell k
        rw [bv_get _ _ (by rw [hlen]; exact hk)] at this
        exact ⟨_, this, HH.out.1.frozen k⟩
      have HCE := Lib.hid hcell
      clear hst hcv hc hlen hcell
      rcases (show i = 0 ∨ i = 1 ∨ i = 2 ∨ i = 3 by omega) with rfl | rfl | rfl | rfl
      · obtain ⟨u, hu, hf⟩ := HCE.out 3 (by omega)
        go_wp2_with fail
        exact ⟨⟨1, rfl, by omega, Lib.hid ⟨by rw [HST.out, ← bv_fill _ _ _ _ (show (c.toNat : Int) = _ from by have := HCV.out; simpa using this)]; exact HH.out.1.set_ 3 _, HH.out.2.setCell (fun h => by rw [HG.out] at h; exact absurd h (Nat.lt_irrefl _)) _⟩⟩, by simp [intOf]⟩
      · obtain ⟨u, hu, hf⟩ := HCE.out 2 (by omega)
        go_wp2_with fail
        exact ⟨⟨2, rfl, by omega, Lib.hid ⟨by rw [HST.out, ← bv_fill _ _ _ _ (show (c.toNat : Int) = _ from by have := HCV.out; simpa using this)]; exact HH.out.1.set_ 2 _, HH.out.2.setCell (fun h => by rw [HG.out] at h; exact absurd h (Nat.lt_irrefl _)) _⟩⟩, by simp [intOf]⟩
      · obtain ⟨u, hu, hf⟩ := HCE.out 1 (by omega)
        go_wp2_with fail
        exact ⟨⟨3, rfl, by omega, Lib.hid ⟨by rw [HST.out, ← bv_fill _ _ _ _ (show (c.toNat : Int) = _ from by have := HCV.out; simpa using this)]; exact HH.out.1.set_ 1 _, HH.out.2.setCell (fun h => by rw [HG.out] at h; exact absurd h (Nat.lt_irrefl _)) _⟩⟩, by simp [intOf]⟩
      · obtain ⟨u, hu, hf⟩ := HCE.out 0 (by omega)
        go_wp2_with fail
        exact ⟨⟨4, rfl, by omega, Lib.hid ⟨by rw [HST.out, ← bv_fill _ _ _ _ (show (c.toNat : Int) = (n : Int) / 16777216 from high_byte hn HCV.out)]; exact HH.out.1.set_ 0 _, HH.out.2.setCell (fun h => by rw [HG.out] at h; exact absurd h (Nat.lt_irrefl _)) _⟩⟩, by simp [intOf]⟩
    · obtain rfl : i = 4 := by omega
      have hs : rowP 4 n = beP 4 n := rfl
      have hbb := HH.out.1
      rw [hs] at hbb
      have HBB := Lib.hid hbb
      have HK := Lib.hid HH.out.2
      have hlt := hbb.lt
      clear hs hbb HH
      go_wp2_with (with_reducible show wpList _ _ _ (⟨some 23, _, _, _, _, _⟩ :: _) _ _; go_must (refine wpList_string_bytes _ rfl _ _ _ rfl 5 Tryz.underlying115 Tryz.underlying5 Tryz.underlying9 g 0 4 4 rfl (beP 4 n) (beP_len _ _) (fun j v hj => by have := HBB.out.cell j; rw [bv_get _ _ (List.getElem?_eq_some_iff.1 hj).1] at this; rw [(List.getElem?_eq_some_iff.1 hj).2] at this; simpa using this) ?_))
      go_ret
      exact ⟨rfl, HK.out⟩
end Go.Proofs.YtdbnalocmjkncaaGreat
