/-
  sum: a sum out of bytes, and whether a text ends with its sum; record: a number out of bytes.
-/
import Derived.Test.YtkmpdobojgiegaaGreatDoorQGround3
import Derived.Laws.BitsAllLaws
namespace Go.Proofs.YtkmpdobojgiegaaGreatDoor
open Go.RowKit

theorem i64_or_nat (a b : Nat) (ha : a < 4611686018427387904) (hb : b < 4611686018427387904) : bits .or .i64 (a : Int) (b : Int) = ((a ||| b : Nat) : Int) := by
  have h : a ||| b < 4611686018427387904 := Nat.or_lt_two_pow (n := 62) ha hb
  have e : (BitVec.ofInt 64 (a : Int) ||| BitVec.ofInt 64 (b : Int)).toNat = a ||| b := by
    rw [BitVec.toNat_or, BitVec.ofInt_natCast, BitVec.ofInt_natCast, BitVec.toNat_ofNat, BitVec.toNat_ofNat, Nat.mod_eq_of_lt (by omega), Nat.mod_eq_of_lt (by omega)]
  show IntKind.i64.wrap ((BitVec.ofInt 64 (a : Int) ||| BitVec.ofInt 64 (b : Int)).toNat : Int) = _
  rw [e]
  exact wrap_in (by omega) (by omega)
theorem or_byte (n c : Nat) (hn : n < 281474976710656) (hc : c < 256) : bits .or .i64 ((n : Int) * 256) (c : Int) = ((n * 256 + c : Nat) : Int) := by
  have h := Nat.shiftLeft_add_eq_or_of_lt (b := c) (i := 8) (by simpa using hc) n
  rw [show ((n : Int) * 256) = ((n * 256 : Nat) : Int) by omega, i64_or_nat _ _ (by omega) (by omega)]
  rw [Nat.shiftLeft_eq] at h
  simp only [show (2 : Nat) ^ 8 = 256 from rfl] at h
  rw [h]
theorem unbe_bound {l : List UInt8} (h : l.length ≤ 6) : unbe l < 281474976710656 := by
  have h1 := unbe_lt l
  have h3 : 256 ^ l.length ≤ 256 ^ 6 := Nat.pow_le_pow_right (by omega) h
  have h4 : (256 : Nat) ^ 6 = 281474976710656 := by decide
  omega
set_option maxRecDepth 100000 in
set_option maxHeartbeats 1000000 in
theorem rectold_any (w : World) (s : ByteArray) (hs : s.size ≤ 6) : Calls Tryz.prog 273 #[.string s] w fun e w' => e = .returned (.int .i64 (unbe s.data.toList : Nat)) ∧ w' = w := by
  go_enter Tryz.func273, Tryz.ntmps273
  go_wp2_with fail
  go_loopw [3, 7] (fun u3 u7 wr => w = wr ∧ ∃ i h : Nat, u7 = .int .i64 i ∧ u3 = .int .i64 h ∧ i ≤ s.size ∧ h < 281474976710656 ∧ Hid (h = unbe (s.data.toList.take i))) (fun _ u7 _ => s.size - (intOf u7).toNat)
  case atStart => exact ⟨rfl, 0, 0, rfl, rfl, Nat.zero_le _, by omega, Lib.hid rfl⟩
  case round =>
    obtain ⟨rfl, i, h, rfl, rfl, hi, hb, HH⟩ := hrel
    by_cases hlt : i < s.size
    · have hst := unbe_take hlt
      rw [← HH.out] at hst
      have hb2 := unbe_bound (l := s.data.toList.take (i + 1)) (by rw [List.length_take]; omega)
      obtain ⟨c, hc⟩ : ∃ c, c = s[i]'hlt := ⟨_, rfl⟩
      rw [← hc] at hst
      have hsc : ∀ hh : i < s.size, s[i]'hh = c := fun _ => hc.symm
      have hcl : c.toNat < 256 := c.toNat_lt
      have hw1 : wrap64 (c.toNat : Int) = c.toNat := IntWalk.wrap64_in _ (by omega)
      have hor := or_byte h c.toNat hb hcl
      have HST := Lib.hid hst
      have HB2 := Lib.hid hb2
      clear hst hc hb2
      go_wp2_with fail
      refine ⟨⟨trivial, i + 1, h * 256 + c.toNat, by go_num, by first | rfl | (rw [hw1, hor]) | (rw [hor]), by omega, by rw [← HST.out]; exact HB2.out, Lib.hid HST.out.symm⟩, by simp [intOf]; omega⟩
    · have hh : h = unbe s.data.toList := by rw [HH.out, List.take_of_length_le (by simp; omega)]
      have HX := Lib.hid hh
      clear hh
      go_wp2_with fail
      go_ret
      exact ⟨by rw [← HX.out]; rfl, rfl⟩
/-- sum.Read of four bytes -/
def sreadV (l : List UInt8) : Value := if unbe l < 2147483647 then .tuple #[.int .i64 (unbe l : Nat), .int .i64 0] else .tuple #[.int .i64 0, .int .i64 2]
set_option maxRecDepth 100000 in
theorem sin_gen (w : World) (n : Nat) (b : Bool) (hb : b = decide (n < 2147483647)) : Calls Tryz.prog 239 #[.int .i64 n] w fun e w' => e = .returned (.bool b) ∧ w' = w := by
  cases b with
  | true =>
    have h : n < 2147483647 := by simpa using hb.symm
    exact sin_any w n (by omega)
  | false =>
    have h : ¬ n < 2147483647 := by simpa using hb.symm
    have h2 : ¬ (n : Int) < 2147483647 := by omega
    clear hb h
    go_enter Tryz.func239, Tryz.ntmps239
    go_wp2_with fail
    go_ret
    exact ⟨rfl, rfl⟩
set_option maxRecDepth 100000 in
set_option maxHeartbeats 1000000 in
theorem sread_sum (w : World) (s : ByteArray) (hs : s.size = 4) : Calls Tryz.prog 282 #[.string s] w fun e w' => e = .returned (sreadV s.data.toList) ∧ w' = w := by
  obtain ⟨V, hV⟩ : ∃ V, V = sreadV s.data.toList := ⟨_, rfl⟩
  rw [← hV]
  have HV := Lib.hid hV
  clear hV
  have hsi : (s.size : Int) = 4 := by omega
  have HSI := Lib.hid hs
  go_enter Tryz.func282, Tryz.ntmps282
  go_wp2_with fail
  go_loopw [4, 9] (fun u4 u9 wr => w = wr ∧ ∃ i h : Nat, u9 = .int .i64 i ∧ u4 = .int .i64 h ∧ i ≤ 4 ∧ h < 281474976710656 ∧ Hid (h = unbe (s.data.toList.take i))) (fun _ u9 _ => 4 - (intOf u9).toNat)
  case atStart => exact ⟨rfl, 0, 0, rfl, rfl, Nat.zero_le _, by omega, Lib.hid rfl⟩
  case round =>
    obtain ⟨rfl, i, h, rfl, rfl, hi, hb, HH⟩ := hrel
    by_cases hlt4 : i < 4
    · have hlt : i < s.size := by omega
      have hst := unbe_take hlt
      rw [← HH.out] at hst
      have hb2 := unbe_bound (l := s.data.toList.take (i + 1)) (by rw [List.length_take]; omega)
      obtain ⟨c, hc⟩ : ∃ c, c = s[i]'hlt := ⟨_, rfl⟩
      rw [← hc] at hst
      have hsc : ∀ hh : i < s.size, s[i]'hh = c := fun _ => hc.symm
      have hcl : c.toNat < 256 := c.toNat_lt
      have hw1 : wrap64 (c.toNat : Int) = c.toNat := IntWalk.wrap64_in _ (by omega)
      have hor := or_byte h c.toNat hb hcl
      have HST := Lib.hid hst
      have HB2 := Lib.hid hb2
      clear hst hc hb2
      go_wp2_with fail
      refine ⟨⟨trivial, i + 1, h * 256 + c.toNat, by go_num, by first | rfl | (rw [hw1, hor]) | (rw [hor]), by omega, by rw [← HST.out]; exact HB2.out, Lib.hid HST.out.symm⟩, by simp [intOf]; omega⟩
    · have hh : h = unbe s.data.toList := by rw [HH.out, List.take_of_length_le (by simp; omega)]
      have hV : V = if h < 2147483647 then .tuple #[.int .i64 h, .int .i64 0] else .tuple #[.int .i64 0, .int .i64 2] := by rw [HV.out, hh]; rfl
      have HV2 := Lib.hid hV
      clear hh hV
      obtain rfl : i = 4 := by omega
      by_cases hp : h < 2147483647
      · have HI := Lib.hid (sin_gen w h true (by rw [decide_eq_true hp]))
        have HP := Lib.hid hp
        clear hp
        go_wp2_with (go_at_call 239; refine HI.out.mono ?_; rintro e w2 ⟨rfl, rfl⟩)
        go_ret2
        exact ⟨by rw [HV2.out, if_pos HP.out]; rfl, rfl⟩
      · have HI := Lib.hid (sin_gen w h false (by rw [decide_eq_false hp]))
        have HP := Lib.hid hp
        clear hp
        go_wp2_with (go_at_call 239; refine HI.out.mono ?_; rintro e w2 ⟨rfl, rfl⟩)
        go_ret2
        exact ⟨by rw [HV2.out, if_neg HP.out]; rfl, rfl⟩
end Go.Proofs.YtkmpdobojgiegaaGreatDoor
