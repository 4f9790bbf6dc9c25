/-
  The document's sums and numbers (wheelhouseref07, wheelhouseref08).
-/
import Derived.Test.YtdbnalocmjkncaaGreatQRecA
namespace Go.Proofs.YtdbnalocmjkncaaGreat
open Go.RowKit

theorem unbe_take {s : ByteArray} {i : Nat} (h : i < s.size) : unbe (s.data.toList.take (i + 1)) = unbe (s.data.toList.take i) * 256 + (s[i]'h).toNat := by
  rw [List.take_succ_eq_append_getElem (by simpa using h), unbe_snoc]; rfl
set_option maxRecDepth 100000 in
theorem rof_any (w : World) (s : ByteArray) (hs : s.size ≤ 4611686018427387904) : Calls Tryz.prog 119 #[.string s] w fun e w' => e = .returned (.int .i64 (sumP s.data.toList : Nat)) ∧ w' = w := by
  go_enter Tryz.func119, Tryz.ntmps119
  go_wp2_with fail
  go_loopw [3, 4] (fun u3 u4 wr => w = wr ∧ ∃ i h : Nat, u4 = .int .i64 i ∧ u3 = .int .i64 h ∧ i ≤ s.size ∧ Hid (h = sumP (s.data.toList.take i))) (fun _ u4 _ => s.size - (intOf u4).toNat)
  case atStart => exact ⟨rfl, 0, 0, rfl, rfl, Nat.zero_le _, Lib.hid rfl⟩
  case round =>
    obtain ⟨rfl, i, h, rfl, rfl, hi, HH⟩ := hrel
    by_cases hlt : i < s.size
    · have hst := sum_take hlt
      rw [← HH.out] at hst
      have hb : h ≤ 2147483646 := by rw [HH.out]; have := sumP_lt (s.data.toList.take i); omega
      have hc : (s[i]'hlt).toNat ≤ 255 := by have := (s[i]'hlt).toNat_lt; omega
      obtain ⟨o, ho⟩ : ∃ o, o = onP h (s[i]'hlt) := ⟨_, rfl⟩
      have ho2 : (o : Int) = (257 * (h : Int) + ((s[i]'hlt).toNat : Int) + 1) % 2147483647 := by rw [ho]; unfold onP; omega
      rw [← ho] at hst
      have HST := Lib.hid hst
      have HO := Lib.hid ho2
      clear hst ho ho2
      go_wp2_with fail
      go_roundw
      case rel => exact ⟨trivial, i + 1, o, by go_num, by rw [HO.out], by omega, Lib.hid HST.out.symm⟩
      case measure => simp [intOf]; omega
    · have hh : h = sumP s.data.toList := by rw [HH.out, List.take_of_length_le (by simp; omega)]
      have HX := Lib.hid hh
      clear hh
      go_wp2_with fail
      go_ret
      exact ⟨by rw [← HX.out]; rfl, rfl⟩
set_option maxRecDepth 100000 in
theorem rnumber_any (w : World) (s : ByteArray) (hs : s.size ≤ 6) : Calls Tryz.prog 94 #[.string s] w fun e w' => e = .returned (.int .i64 (unbe s.data.toList : Nat)) ∧ w' = w := by
  go_enter Tryz.func94, Tryz.ntmps94
  go_wp2_with fail
  go_loopw [3, 4] (fun u3 u4 wr => w = wr ∧ ∃ i h : Nat, u4 = .int .i64 i ∧ u3 = .int .i64 h ∧ i ≤ s.size ∧ h ≤ 281474976710655 ∧ Hid (h = unbe (s.data.toList.take i))) (fun _ u4 _ => s.size - (intOf u4).toNat)
  case atStart => exact ⟨rfl, 0, 0, rfl, rfl, Nat.zero_le _, by omega, Lib.hid rfl⟩
  case round =>
    obtain ⟨rfl, i, h, rfl, rfl, hi, hb, HH⟩ := hrel
    by_cases hlt : i < s.size
    · have hst := unbe_take hlt
      rw [← HH.out] at hst
      have hc : (s[i]'hlt).toNat ≤ 255 := by have := (s[i]'hlt).toNat_lt; omega
      have hb2 : unbe (s.data.toList.take (i + 1)) ≤ 281474976710655 := by
        have h1 := unbe_lt (s.data.toList.take (i + 1))
        have h2 : (s.data.toList.take (i + 1)).length ≤ 6 := by rw [List.length_take]; omega
        have h3 : 256 ^ (s.data.toList.take (i + 1)).length ≤ 256 ^ 6 := Nat.pow_le_pow_right (by omega) h2
        have h4 : (256 : Nat) ^ 6 = 281474976710656 := by decide
        omega
      rw [hst] at hb2
      have HST := Lib.hid hst
      clear hst
      go_wp2_with fail
      go_roundw
      case rel => exact ⟨trivial, i + 1, h * 256 + (s[i]'hlt).toNat, by go_num, by first | go_num | (congr 1; omega), by omega, hb2, Lib.hid HST.out.symm⟩
      case measure => simp [intOf]; omega
    · have hh : h = unbe s.data.toList := by rw [HH.out, List.take_of_length_le (by simp; omega)]
      have HX := Lib.hid hh
      clear hh
      go_wp2_with fail
      go_ret
      exact ⟨by rw [← HX.out]; rfl, rfl⟩
end Go.Proofs.YtdbnalocmjkncaaGreat
