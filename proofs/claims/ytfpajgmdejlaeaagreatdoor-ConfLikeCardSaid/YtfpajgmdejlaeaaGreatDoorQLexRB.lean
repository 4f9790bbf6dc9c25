/-
  The document's pieces (wheelhouseref12): Skip, quote, one.
-/
import Derived.Test.YtfpajgmdejlaeaaGreatDoorQLexRA
import Derived.Test.YtfpajgmdejlaeaaGreatDoorQGround2
namespace Go.Proofs.YtfpajgmdejlaeaaGreatDoor
open Go.RowKit

theorem skipP_nil (note : Bool) (ln : Int) : skipP note ln [] = (ln, []) := by rw [skipP]
theorem skipP_cons (note : Bool) (ln : Int) (c : UInt8) (t : List UInt8) : skipP note ln (c :: t) = if c.toNat = 10 then skipP false (ln + 1) t else if note || blankB c then skipP note ln t else if c.toNat = 35 then skipP true ln t else (ln, c :: t) := by rw [skipP]

set_option maxRecDepth 100000 in
set_option maxHeartbeats 2000000 in
theorem rskip_any (w : World) (s : ByteArray) (k0 ln0 : Int) (hs : s.size ≤ 1073741820) (h0 : 0 ≤ k0) (hk0 : k0 ≤ s.size) (hl0 : 0 ≤ ln0) (hln : ln0 ≤ 1073741824) :
    Calls Tryz.prog 100 #[.string s, .int .i64 k0, .int .i64 ln0] w fun e w' =>
      e = .returned (.tuple #[.int .i64 ((s.size : Int) - (skipP false ln0 (s.data.toList.drop k0.toNat)).2.length), .int .i64 (skipP false ln0 (s.data.toList.drop k0.toNat)).1]) ∧ w' = w := by
  have hl : s.data.toList.length = s.size := by simp
  obtain ⟨k0, rfl⟩ := Int.eq_ofNat_of_zero_le h0
  rw [Int.toNat_natCast]
  obtain ⟨R, hR⟩ : ∃ R, R = skipP false ln0 (s.data.toList.drop k0) := ⟨_, rfl⟩
  rw [← hR]
  have HR := Lib.hid hR
  obtain ⟨l, hll⟩ : ∃ l, l = s.data.toList := ⟨_, rfl⟩
  rw [← hll] at hl HR
  have hget : Hid (∀ (k : Nat) c, l[k]? = some c → ∀ h, s[k]'h = c) := Lib.hid (by
    intro k c hc h
    have := (List.getElem?_eq_some_iff.1 (hll ▸ hc)).2
    rw [← this]; rfl)
  have hfin : Hid (∀ (k : Nat) ln, k ≤ s.size → (ln, l.drop k) = R → (s.size : Int) - R.2.length = k ∧ R.1 = ln) := Lib.hid (by
    intro k ln hk h; rw [← h]; simp; omega)
  clear hR hll
  go_enter Tryz.func100, Tryz.ntmps100
  go_wp2_with fail
  go_loop [1, 2] (fun u1 u2 => ∃ (k : Nat) (ln : Int), k ≤ s.size ∧ u1 = .int .i64 k ∧ u2 = .int .i64 ln ∧ 0 ≤ ln ∧ ln ≤ ln0 + k ∧ skipP false ln (l.drop k) = R) (fun u1 _ => s.size - (intOf u1).toNat)
  case atStart => exact ⟨k0, ln0, by omega, rfl, rfl, hl0, by omega, HR.out.symm⟩
  case round =>
    obtain ⟨k, ln, hk, rfl, rfl, hn0, hn1, hS⟩ := hrel
    have HS := Lib.hid hS
    clear hS
    by_cases hp : k < s.size
    · obtain ⟨c, hc⟩ : ∃ c, l[k]? = some c := ⟨_, List.getElem?_eq_getElem (by omega)⟩
      have hsc := hget.out k c hc
      have hS := HS.out
      rw [drop_at' hc, skipP_cons] at hS
      have HS2 := Lib.hid hS
      have HC := Lib.hid hc
      clear hS hc
      by_cases h35 : c.toNat = 35
      · obtain rfl : c = 35 := UInt8.toNat_inj.1 (by simpa using h35)
        have hS3 : Hid (skipP true ln (l.drop (k + 1)) = R) := Lib.hid (by have := HS2.out; rw [if_neg (by decide), if_neg (by decide), if_pos (by decide)] at this; exact this)
        clear h35
        go_wp2_with fail
        go_loop [1] (fun u1 => ∃ j : Nat, k ≤ j ∧ j ≤ s.size ∧ u1 = .int .i64 j ∧ (j = k ∨ k < j ∧ skipP true ln (l.drop j) = R)) (fun u1 => s.size - (intOf u1).toNat)
        case atStart => exact ⟨k, by omega, by omega, rfl, .inl rfl⟩
        case round =>
          obtain ⟨j, hkj, hjs, rfl, hj⟩ := hrel
          have HJ := Lib.hid hj
          clear hj
          by_cases hp2 : j < s.size
          · obtain ⟨d, hd⟩ : ∃ d, l[j]? = some d := ⟨_, List.getElem?_eq_getElem (by omega)⟩
            have hsd := hget.out j d hd
            have HD := Lib.hid hd
            clear hd
            by_cases h10 : d.toNat = 10
            · obtain rfl : d = 10 := UInt8.toNat_inj.1 (by simpa using h10)
              have hkj2 : k < j := by
                rcases Nat.lt_or_ge k j with h | h
                · exact h
                · have : j = k := by omega
                  subst this
                  have := HD.out; rw [HC.out] at this; injection this with this; exact absurd this (by decide)
              have hN : Hid (skipP false ln (l.drop j) = R) := Lib.hid (by
                rcases HJ.out with h | ⟨_, h⟩
                · omega
                · rw [drop_at' HD.out, skipP_cons, if_pos (by decide)] at h ⊢; exact h)
              clear h10
              go_wp2_with fail
              go_round
              case rel => exact ⟨j, ln, by omega, rfl, rfl, hn0, by omega, hN.out⟩
              case measure => simp [intOf] <;> omega
            · have b10 : ((d.toNat : Int) != 10) = true := by rw [bne_iff_ne]; omega
              have hN : Hid (skipP true ln (l.drop (j + 1)) = R) := Lib.hid (by
                rcases HJ.out with h | ⟨_, h⟩
                · subst h; exact hS3.out
                · rw [drop_at' HD.out, skipP_cons, if_neg h10, if_pos (by rfl)] at h; exact h)
              clear h10
              go_wp2_with fail
              go_round
              case rel => exact ⟨j + 1, by omega, by omega, by go_num, .inr ⟨by omega, hN.out⟩⟩
              case measure => simp [intOf] <;> omega
          · have hj2 : j = s.size := by omega
            subst hj2
            have hN : Hid (skipP false ln (l.drop s.size) = R) := Lib.hid (by
              rcases HJ.out with h | ⟨_, h⟩
              · omega
              · rw [List.drop_of_length_le (by omega), skipP_nil] at h ⊢; exact h)
            go_wp2_with fail
            go_round
            case rel => exact ⟨s.size, ln, by omega, rfl, rfl, hn0, by omega, hN.out⟩
            case measure => simp [intOf] <;> omega
      · have b35 : ((c.toNat : Int) == 35) = false := by rw [beq_eq_false_iff_ne]; omega
        by_cases h10 : c.toNat = 10
        · obtain rfl : c = 10 := UInt8.toNat_inj.1 (by simpa using h10)
          have hN : Hid (skipP false (ln + 1) (l.drop (k + 1)) = R) := Lib.hid (by have := HS2.out; rw [if_pos (by decide)] at this; exact this)
          clear h35 h10
          go_wp2_with fail
          go_round
          case rel => exact ⟨k + 1, ln + 1, by omega, by go_num, rfl, by omega, by omega, hN.out⟩
          case measure => simp [intOf] <;> omega
        · have b10 : ((c.toNat : Int) == 10) = false := by rw [beq_eq_false_iff_ne]; omega
          have b10' : ((c.toNat : Int) != 10) = true := by rw [bne_iff_ne]; omega
          by_cases hbl : c.toNat = 32 ∨ c.toNat = 9 ∨ c.toNat = 13
          · have hN : Hid (skipP false ln (l.drop (k + 1)) = R) := Lib.hid (by
              have := HS2.out
              rw [if_neg h10, if_pos (by unfold blankB; simp; omega)] at this; exact this)
            clear h35 h10
            rcases hbl with hb | hb | hb
            · obtain rfl : c = 32 := UInt8.toNat_inj.1 (by simpa using hb)
              clear hb
              go_wp2_with fail
              go_round
              case rel => exact ⟨k + 1, ln, by omega, by go_num, rfl, by omega, by omega, hN.out⟩
              case measure => simp [intOf] <;> omega
            · obtain rfl : c = 9 := UInt8.toNat_inj.1 (by simpa using hb)
              clear hb
              go_wp2_with fail
              go_round
              case rel => exact ⟨k + 1, ln, by omega, by go_num, rfl, by omega, by omega, hN.out⟩
              case measure => simp [intOf] <;> omega
            · obtain rfl : c = 13 := UInt8.toNat_inj.1 (by simpa using hb)
              clear hb
              go_wp2_with fail
              go_round
              case rel => exact ⟨k + 1, ln, by omega, by go_num, rfl, by omega, by omega, hN.out⟩
              case measure => simp [intOf] <;> omega
          · have b1 : ((c.toNat : Int) != 32) = true := by rw [bne_iff_ne]; omega
            have b2 : ((c.toNat : Int) != 9) = true := by rw [bne_iff_ne]; omega
            have b3 : ((c.toNat : Int) != 13) = true := by rw [bne_iff_ne]; omega
            have hN := hfin.out k ln hk (by
              have := HS2.out
              rw [if_neg h10, if_neg (by unfold blankB; simp; omega), if_neg h35] at this
              rw [drop_at' HC.out]; exact this)
            have HN := Lib.hid hN
            clear h35 h10 hbl hN
            go_wp2_with fail
            go_ret2
            exact ⟨by rw [HN.out.1, HN.out.2]; rfl, rfl⟩
    · have hke : k = s.size := by omega
      subst hke
      have hN := hfin.out s.size ln (by omega) (by have := HS.out; rw [List.drop_of_length_le (by omega), skipP_nil] at this; rw [List.drop_of_length_le (by omega)]; exact this)
      have HN := Lib.hid hN
      clear hN
      go_wp2_with fail
      go_ret2
      exact ⟨by rw [HN.out.1, HN.out.2]; rfl, rfl⟩
end Go.Proofs.YtfpajgmdejlaeaaGreatDoor
