/-
  The document's sum as bytes, and which items may be (wheelhouseref07, wheelhouseref08).
-/
import Derived.Test.YtdbnalocmjkncaaGreatQRecB
namespace Go.Proofs.YtdbnalocmjkncaaGreat
open Go.RowKit

theorem be4_cells {n : Nat} (hn : n ≤ 2147483646) : ∀ (j : Nat) (v : UInt8), (beP 4 n)[j]? = some v → (#[Value.int .u8 ((n : Int) / 16777216), .int .u8 ((n : Int) / 65536 % 256), .int .u8 ((n : Int) / 256 % 256), .int .u8 ((n : Int) % 256)])[j]? = some (.int .u8 (v.toNat : Int)) := by
  have e : beP 4 n = [UInt8.ofNat (n / 16777216 % 256), UInt8.ofNat (n / 65536 % 256), UInt8.ofNat (n / 256 % 256), UInt8.ofNat (n % 256)] := by
    rw [beP_cons, beP_cons, beP_cons, beP_cons]
    simp [beP]
  intro j v hj
  rw [e] at hj
  match j, hj with
  | 0, hj => simp at hj; subst hj; simp; omega
  | 1, hj => simp at hj; subst hj; simp
  | 2, hj => simp at hj; subst hj; simp
  | 3, hj => simp at hj; subst hj; simp
  | j + 4, hj => simp at hj
set_option maxRecDepth 100000 in
theorem rsput_any (w : World) (n : Nat) (hn : n ≤ 2147483646) : Calls Tryz.prog 118 #[.int .i64 n] w fun e w' => e = .returned (.string (str (beP 4 n))) ∧ Keeps (fun _ => False) w w' := by
  have t1 : decide ((2147483647 : Int) ≤ (n : Int)) = false := by rw [decide_eq_false_iff_not]; omega
  go_enter Tryz.func118, Tryz.ntmps118
  go_wp2_with ((with_reducible show wpList _ _ _ (⟨some 24, _, _, _, _, _⟩ :: _) _ _); go_must (refine wpList_string_bytes _ rfl _ _ _ rfl 5 Tryz.underlying115 Tryz.underlying5 Tryz.underlying9 w.heap.size 0 4 4 rfl (beP 4 n) (beP_len _ _) (fun j v hj => by rw [Nat.zero_add, (Blk.new w 5 _).cell j]; exact be4_cells hn j v hj) ?_))
  go_ret
  exact ⟨rfl, (Keeps.refl _ _).alloc _⟩
set_option maxRecDepth 100000 in
theorem r8check_any (w : World) (x : Itm) : Calls Tryz.prog 95 #[itmV x] w fun e w' => e = .returned (.int .i64 (checkI 1 2 5 x)) ∧ Keeps (fun _ => False) w w' := by
  obtain ⟨kind, at_, body⟩ := x
  unfold itmV checkI
  simp only
  have HK := Lib.hid (fun (o : Obj) => (Keeps.refl (fun _ => False) w).alloc o)
  obtain ⟨r, hr⟩ : ∃ r : Int, r = (if kind < 1 ∨ 15 < kind then 1 else if at_ < 0 ∨ 1099511627776 < at_ then 2 else if 4096 < body.size then 5 else 0 : Int) := ⟨_, rfl⟩
  rw [← hr]
  by_cases h1 : kind < 1
  · rw [if_pos (.inl h1)] at hr
    have HR := Lib.hid hr
    clear hr
    go_enter Tryz.func95, Tryz.ntmps95
    go_wp2_with fail
    go_ret
    exact ⟨by rw [HR.out]; rfl, HK.out _⟩
  by_cases h2 : 15 < kind
  · rw [if_pos (.inr h2)] at hr
    have HR := Lib.hid hr
    clear hr
    go_enter Tryz.func95, Tryz.ntmps95
    go_wp2_with fail
    go_ret
    exact ⟨by rw [HR.out]; rfl, HK.out _⟩
  rw [if_neg (by omega)] at hr
  by_cases h3 : at_ < 0
  · rw [if_pos (.inl h3)] at hr
    have HR := Lib.hid hr
    clear hr
    go_enter Tryz.func95, Tryz.ntmps95
    go_wp2_with fail
    go_ret
    exact ⟨by rw [HR.out]; rfl, HK.out _⟩
  by_cases h4 : 1099511627776 < at_
  · rw [if_pos (.inr h4)] at hr
    have HR := Lib.hid hr
    clear hr
    go_enter Tryz.func95, Tryz.ntmps95
    go_wp2_with fail
    go_ret
    exact ⟨by rw [HR.out]; rfl, HK.out _⟩
  rw [if_neg (by omega)] at hr
  by_cases h5 : 4096 < body.size
  · rw [if_pos h5] at hr
    have HR := Lib.hid hr
    clear hr
    go_enter Tryz.func95, Tryz.ntmps95
    go_wp2_with fail
    go_ret
    exact ⟨by rw [HR.out]; rfl, HK.out _⟩
  · rw [if_neg h5] at hr
    have HR := Lib.hid hr
    clear hr
    go_enter Tryz.func95, Tryz.ntmps95
    go_wp2_with fail
    go_ret
    exact ⟨by rw [HR.out]; rfl, HK.out _⟩
end Go.Proofs.YtdbnalocmjkncaaGreat
