/-
  sum: the sum of a text, and a sum as bytes; record: a number as bytes behind others.
-/
import Derived.Test.YtfbdpmeelejdhaaChecked
import Derived.Test.YtfbdpmeelejdhaaQRecP
import Derived.Test.YtfbdpmeelejdhaaQGround
namespace Go.Proofs.Ytfbdpmeelejdhaa
open Go.RowKit

theorem beP_cons : ∀ (k n : Nat), beP (k + 1) n = UInt8.ofNat (n / 256 ^ k % 256) :: beP k n
  | 0, n => by unfold beP; simp [beP]
  | k + 1, n => by
    have ih := beP_cons k (n / 256)
    conv => lhs; unfold beP
    rw [ih]
    conv => rhs; unfold beP
    rw [List.cons_append, Nat.div_div_eq_div_mul, Nat.pow_succ, Nat.mul_comm 256]
set_option maxRecDepth 100000 in
theorem on_any (w : World) (h : Nat) (c : UInt8) (hh : h ≤ 2147483646) : Calls Try.prog 64 #[.int .i64 h, .int .u8 c.toNat] w fun e w' => e = .returned (.int .i64 (onP h c : Nat)) ∧ w' = w := by
  have hc : c.toNat ≤ 255 := by have := c.toNat_lt; omega
  have ho : ((onP h c : Nat) : Int) = ((h : Int) * 257 + (c.toNat : Int) + 1) % 2147483647 := by unfold onP; omega
  obtain ⟨x, hx⟩ : ∃ x, x = c.toNat := ⟨_, rfl⟩
  rw [← hx] at hc ho ⊢
  have HO := Lib.hid ho
  clear ho hx
  go_enter Try.func64, Try.ntmps64
  go_wp2_with fail
  go_ret
  exact ⟨by rw [HO.out]; rfl, rfl⟩
theorem sum_take {s : ByteArray} {i : Nat} (h : i < s.size) : sumP (s.data.toList.take (i + 1)) = onP (sumP (s.data.toList.take i)) (s[i]'h) := by
  rw [List.take_succ_eq_append_getElem (by simpa using h), sumP_snoc]; rfl
set_option maxRecDepth 100000 in
theorem sall_any (w : World) (s : ByteArray) (hs : s.size ≤ 4611686018427387904) : Calls Try.prog 55 #[.int .i64 0, .string s] w fun e w' => e = .returned (.int .i64 (sumP s.data.toList : Nat)) ∧ w' = w := by
  go_enter Try.func55, Try.ntmps55
  go_wp2_with fail
  go_loopw [0, 8] (fun u0 u8 wr => w = wr ∧ ∃ i h : Nat, u8 = .int .i64 i ∧ u0 = .int .i64 h ∧ i ≤ s.size ∧ Hid (h = sumP (s.data.toList.take i))) (fun _ u8 _ => s.size - (intOf u8).toNat)
  case atStart => exact ⟨rfl, 0, 0, rfl, rfl, Nat.zero_le _, Lib.hid rfl⟩
  case round =>
    obtain ⟨rfl, i, h, rfl, rfl, hi, HH⟩ := hrel
    by_cases hlt : i < s.size
    · have hst := sum_take hlt
      rw [← HH.out] at hst
      have hb : h ≤ 2147483646 := by rw [HH.out]; have := sumP_lt (s.data.toList.take i); omega
      have HON := Lib.hid (on_any w h (s[i]'hlt) hb)
      obtain ⟨o, ho⟩ : ∃ o, o = onP h (s[i]'hlt) := ⟨_, rfl⟩
      rw [← ho] at hst HON
      have HST := Lib.hid hst
      clear hst ho
      go_wp2_with fail
      refine HON.out.mono ?_
      rintro e w2 ⟨rfl, hw⟩
      obtain rfl : w = w2 := hw.symm
      go_wp2_with fail
      go_roundw
      case rel => exact ⟨trivial, i + 1, o, by go_num, rfl, by omega, Lib.hid HST.out.symm⟩
      case measure => simp [intOf]; omega
    · have hh : h = sumP s.data.toList := by rw [HH.out, List.take_of_length_le (by simp; omega)]
      have HX := Lib.hid hh
      clear hh
      go_wp2_with fail
      go_ret
      exact ⟨by rw [← HX.out]; rfl, rfl⟩
theorem sof_any (w : World) (s : ByteArray) (hs : s.size ≤ 4611686018427387904) : Calls Try.prog 40 #[.string s] w fun e w' => e = .returned (.int .i64 (sumP s.data.toList : Nat)) ∧ w' = w := by
  have H := Lib.hid (sall_any w s hs)
  go_enter Try.func40, Try.ntmps40
  go_wp2_with fail
  refine H.out.mono ?_
  rintro e w2 ⟨rfl, hw⟩
  obtain rfl : w = w2 := hw.symm
  go_wp2_with fail
  go_ret
  exact ⟨rfl, rfl⟩
set_option maxRecDepth 100000 in
theorem sin_any (w : World) (n : Nat) (h : n ≤ 2147483646) : Calls Try.prog 54 #[.int .i64 n] w fun e w' => e = .returned (.bool true) ∧ w' = w := by
  have t1 : decide ((n : Int) < 2147483647) = true := by rw [decide_eq_true_iff]; omega
  go_enter Try.func54, Try.ntmps54
  go_wp2_with fail
  go_ret
  exact ⟨rfl, rfl⟩
set_option maxRecDepth 100000 in
theorem isTick_any (w : World) (n : Int) (b : Bool) (hb : b = (decide (0 ≤ n) && decide (n ≤ 1099511627776))) : Calls Try.prog 53 #[.int .i64 n] w fun e w' => e = .returned (.bool b) ∧ w' = w := by
  by_cases h1 : 0 ≤ n
  · by_cases h2 : n ≤ 1099511627776
    · rw [decide_eq_true h1, decide_eq_true h2] at hb
      have HB := Lib.hid hb
      clear hb
      go_enter Try.func53, Try.ntmps53
      go_wp2_with fail
      go_ret
      exact ⟨by rw [HB.out]; rfl, rfl⟩
    · rw [decide_eq_false h2, Bool.and_false] at hb
      have HB := Lib.hid hb
      clear hb
      go_enter Try.func53, Try.ntmps53
      go_wp2_with fail
      go_ret
      exact ⟨by rw [HB.out]; rfl, rfl⟩
  · rw [decide_eq_false h1, Bool.false_and] at hb
    have HB := Lib.hid hb
    clear hb
    go_enter Try.func53, Try.ntmps53
    go_wp2_with fail
    go_ret
    exact ⟨by rw [HB.out]; rfl, rfl⟩
theorem byte_shr (n j : Nat) : (((UInt8.ofNat (n / 256 ^ j % 256)).toNat : Nat) : Int) = (n : Int) / 2 ^ (8 * j) % 256 := by
  rw [byte_mod, show (256 : Nat) ^ j = 2 ^ (8 * j) by rw [Nat.pow_mul]]
  have : ((2 : Int) ^ (8 * j)) = ((2 ^ (8 * j) : Nat) : Int) := by rw [Int.natCast_pow]; rfl
  rw [this]
  omega
set_option maxRecDepth 100000 in
set_option maxHeartbeats 1000000 in
theorem number_any (w : World) (v : Value) (l : List UInt8) (n wide : Nat) (hv : OwnQ w 5 v (u8Vs l)) (hw8 : wide ≤ 6) (hl : l.length ≤ 1048576) :
    Calls Try.prog 38 #[v, .int .i64 n, .int .i64 wide] w fun e w' => ∃ v', e = .returned v' ∧ OwnQ w' 5 v' (u8Vs (l ++ beP wide n)) ∧ (rowB v' = rowB v ∨ ∃ r, rowB v' = some r ∧ w.heap.size ≤ r) ∧ Keeps (fun i => rowB v = some i) w w' := by
  have HV := Lib.hid hv
  clear hv
  go_enter Try.func38, Try.ntmps38
  go_wp2_with fail
  go_loopw [0, 7] (fun u0 u7 wr => ∃ (j : Nat) (l2 : List UInt8), u7 = .int .i64 ((j : Int) - 1) ∧ j ≤ wide ∧ Hid (l2 ++ beP j n = l ++ beP wide n ∧ OwnQ wr 5 u0 (u8Vs l2) ∧ (rowB u0 = rowB v ∨ ∃ r, rowB u0 = some r ∧ w.heap.size ≤ r) ∧ Keeps (fun i => rowB v = some i) w wr)) (fun _ u7 _ => (intOf u7 + 1).toNat)
  case atStart => exact ⟨wide, l, by first | rfl | go_num, Nat.le_refl _, Lib.hid ⟨rfl, HV.out, .inl rfl, Keeps.refl _ _⟩⟩
  case round =>
    obtain ⟨j, l2, rfl, hj, HI⟩ := hrel
    rename World => wr
    rcases j with _ | j
    · have hh := HI.out.1
      rw [show beP 0 n = [] from rfl, List.append_nil] at hh
      have HH := Lib.hid hh
      have HO := Lib.hid HI.out.2.1
      have HR := Lib.hid HI.out.2.2.1
      have HK := Lib.hid HI.out.2.2.2
      obtain ⟨a0, c0, hv0⟩ := HO.out.sl
      clear hh HI
      go_wp2_with fail
      go_ret
      exact ⟨u0, rfl, by rw [← HH.out]; exact HO.out, HR.out, HK.out⟩
    · have hbc := beP_cons j n
      have hcv := byte_shr n j
      obtain ⟨cb, hcb⟩ : ∃ cb, cb = UInt8.ofNat (n / 256 ^ j % 256) := ⟨_, rfl⟩
      rw [← hcb] at hbc hcv
      have HBC := Lib.hid hbc
      have HCV := Lib.hid hcv
      have HH := Lib.hid HI.out.1
      have HO := Lib.hid HI.out.2.1
      have HR := Lib.hid HI.out.2.2.1
      have HK := Lib.hid HI.out.2.2.2
      obtain ⟨a0, c0, hv0⟩ := HO.out.sl
      have hlen : l2.length ≤ 2097152 := by
        have h1 := congrArg List.length HI.out.1
        rw [List.length_append, List.length_append, beP_len, beP_len] at h1
        omega
      obtain ⟨m2, hm2⟩ : ∃ m2, m2 = (u8Vs l2).length := ⟨_, rfl⟩
      rw [← hm2] at hv0
      subst hv0
      have hul : (u8Vs l2).length ≤ 17179869184 := by rw [u8Vs_len]; omega
      have HUL := Lib.hid hul
      have hwz := HK.out.size
      clear hbc hcv hcb HI hm2 hul
      go_wp2_with (with_reducible show wpList _ _ _ (⟨some 21, _, _, _, _, _⟩ :: _) _ _; go_must (refine wpList_append_q rfl (.tmp 14) (.tmp 20) 72 rfl 5 (.int .u8 0) 1 Try.underlying72 (by kernel_rfl) rfl (by omega) (.slice a0 m2 c0) (u8Vs l2) rfl (OwnQ.keeps (S := fun _ => False) HO.out ((Keeps.refl _ _).alloc _) (fun _ _ _ => id)) ⟨wr.heap.size, 0, none⟩ 1 (.int .u8 ((n : Int) / 2 ^ (8 * j) % 256)) rfl (by go_simp) rfl HUL.out ?_; intro v7 w7 O7 k7 hr7; have HO7 := Lib.hid O7; have HK7 := Lib.hid k7; have HR7 := Lib.hid hr7; clear O7 k7 hr7))
      go_roundw
      case rel =>
        have hk : Keeps (fun i => rowB v = some i) w w7 := (HK.out.alloc _).and_ HK7.out (fun i hi e => by
          rcases HR.out with h1 | ⟨r, h1, h2⟩
          · rw [← h1]; exact e
          · rw [h1] at e; injection e with e; omega)
        refine ⟨j, l2 ++ [cb], by go_num, by omega, Lib.hid ⟨by rw [List.append_assoc, List.singleton_append, ← HBC.out]; exact HH.out, ?_, ?_, hk⟩⟩
        · have := HO7.out
          rw [← HCV.out] at this
          rw [u8Vs_app]
          exact this
        · rcases HR7.out with h1 | h1
          · rw [h1]; exact HR.out
          · exact .inr ⟨_, h1, by simp; omega⟩
      case measure => simp [intOf]
end Go.Proofs.Ytfbdpmeelejdhaa
