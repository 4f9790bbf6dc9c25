/-
  store: on a store that nobody made.
-/
import Derived.Test.YtdbnalocmjkncaaGreatDoorQStoQ
namespace Go.Proofs.YtdbnalocmjkncaaGreatDoor
open Go.RowKit Go.Maps

set_option maxRecDepth 100000 in
theorem sync_nil (w : World) (nm : ByteArray) : Calls Tryz.prog 32 #[.pointer none, .string nm] w fun e w' => (∃ v, e = .returned v ∧ ErrV w' 14 v) ∧ Keeps (fun _ => False) w w' := by
  have HB := Lib.hid (begin_nil w nm)
  go_enter Tryz.func32, Tryz.ntmps32
  go_wp2_with fail
  refine HB.out.mono ?_
  rintro e w1 ⟨⟨v, rfl, hev⟩, k1⟩
  obtain ⟨ty, x, rfl⟩ := hev.iface (by decide)
  have HE := Lib.hid hev
  have HK := Lib.hid k1
  clear hev k1
  go_wp2_with fail
  go_ret
  exact ⟨⟨_, rfl, HE.out⟩, HK.out⟩
set_option maxRecDepth 100000 in
theorem remove_nil (w : World) (nm : ByteArray) : Calls Tryz.prog 85 #[.pointer none, .string nm] w fun e w' => (∃ v, e = .returned v ∧ ErrV w' 14 v) ∧ Keeps (fun _ => False) w w' := by
  have HB := Lib.hid (begin_nil w nm)
  go_enter Tryz.func85, Tryz.ntmps85
  go_wp2_with fail
  refine HB.out.mono ?_
  rintro e w1 ⟨⟨v, rfl, hev⟩, k1⟩
  obtain ⟨ty, x, rfl⟩ := hev.iface (by decide)
  have HE := Lib.hid hev
  have HK := Lib.hid k1
  clear hev k1
  go_wp2_with fail
  go_ret
  exact ⟨⟨_, rfl, HE.out⟩, HK.out⟩
set_option maxRecDepth 100000 in
theorem rename_nil (w : World) (nm nb : ByteArray) : Calls Tryz.prog 87 #[.pointer none, .string nm, .string nb] w fun e w' => (∃ v, e = .returned v ∧ ErrV w' 14 v) ∧ Keeps (fun _ => False) w w' := by
  have HB := Lib.hid (begin_nil w nm)
  go_enter Tryz.func87, Tryz.ntmps87
  go_wp2_with fail
  refine HB.out.mono ?_
  rintro e w1 ⟨⟨v, rfl, hev⟩, k1⟩
  obtain ⟨ty, x, rfl⟩ := hev.iface (by decide)
  have HE := Lib.hid hev
  have HK := Lib.hid k1
  clear hev k1
  go_wp2_with fail
  go_ret
  exact ⟨⟨_, rfl, HE.out⟩, HK.out⟩
set_option maxRecDepth 100000 in
theorem append_nil (w : World) (nm b : ByteArray) : Calls Tryz.prog 29 #[.pointer none, .string nm, .string b] w fun e w' => (∃ v, e = .returned v ∧ ErrV w' 14 v) ∧ Keeps (fun _ => False) w w' := by
  have HB := Lib.hid (begin_nil w nm)
  go_enter Tryz.func29, Tryz.ntmps29
  go_wp2_with fail
  refine HB.out.mono ?_
  rintro e w1 ⟨⟨v, rfl, hev⟩, k1⟩
  obtain ⟨ty, x, rfl⟩ := hev.iface (by decide)
  have HE := Lib.hid hev
  have HK := Lib.hid k1
  clear hev k1
  go_wp2_with fail
  go_ret
  exact ⟨⟨_, rfl, HE.out⟩, HK.out⟩
set_option maxRecDepth 100000 in
theorem total_nil (w : World) : Calls Tryz.prog 78 #[.pointer none] w fun e w' => e = .returned (.int .i64 0) ∧ w' = w := by
  go_enter Tryz.func78, Tryz.ntmps78
  go_wp2_with (go_at_call 34; refine (made_nil _).mono ?_; rintro e w1 ⟨rfl, rfl⟩)
  go_ret
  exact ⟨rfl, rfl⟩
set_option maxRecDepth 100000 in
theorem crash_nil (w : World) (a : Option Addr) (n c : Nat) : Calls Tryz.prog 39 #[.pointer none, .slice a n c] w fun e w' => e = .returned (.tuple #[]) ∧ w' = w := by
  go_enter Tryz.func39, Tryz.ntmps39
  go_wp2_with fail
  refine (names_nil _).mono ?_
  rintro e w1 ⟨rfl, hw⟩
  obtain rfl : w = w1 := hw.symm
  go_wp2_with fail
  go_loopw [11] (fun u11 wr => w = wr ∧ u11 = .int .i64 0) (fun _ _ => 0)
  case atStart => exact ⟨rfl, rfl⟩
  case round =>
    obtain ⟨rfl, rfl⟩ := hrel
    go_wp2_with fail
    refine (fail_nil _ _).mono ?_
    rintro e w1 ⟨rfl, hw⟩
    obtain rfl : w = w1 := hw.symm
    go_wp2_with fail
    go_end0
    exact ⟨rfl, rfl⟩
end Go.Proofs.YtdbnalocmjkncaaGreatDoor
