/-
  store: on a store that nobody made.
-/
import Derived.Test.YtfbdpmeelejdhaaQStoQ
namespace Go.Proofs.Ytfbdpmeelejdhaa
open Go.RowKit Go.Maps

set_option maxRecDepth 100000 in
theorem sync_nil (w : World) (nm : ByteArray) : Calls Try.prog 22 #[.pointer none, .string nm] w fun e w' => (∃ v, e = .returned v ∧ ErrV w' 14 v) ∧ Keeps (fun _ => False) w w' := by
  have HB := Lib.hid (begin_nil w nm)
  go_enter Try.func22, Try.ntmps22
  go_wp2_with fail
  refine HB.out.mono ?_
  rintro e w1 ⟨⟨v, rfl, hev⟩, k1⟩
  obtain ⟨ty, x, rfl⟩ := hev.iface (by decide)
  have HE := Lib.hid hev
  have HK := Lib.hid k1
  clear hev k1
  go_wp2_with fail
  go_ret
  exact ⟨⟨_, rfl, HE.out⟩, HK.out⟩
set_option maxRecDepth 100000 in
theorem remove_nil (w : World) (nm : ByteArray) : Calls Try.prog 65 #[.pointer none, .string nm] w fun e w' => (∃ v, e = .returned v ∧ ErrV w' 14 v) ∧ Keeps (fun _ => False) w w' := by
  have HB := Lib.hid (begin_nil w nm)
  go_enter Try.func65, Try.ntmps65
  go_wp2_with fail
  refine HB.out.mono ?_
  rintro e w1 ⟨⟨v, rfl, hev⟩, k1⟩
  obtain ⟨ty, x, rfl⟩ := hev.iface (by decide)
  have HE := Lib.hid hev
  have HK := Lib.hid k1
  clear hev k1
  go_wp2_with fail
  go_ret
  exact ⟨⟨_, rfl, HE.out⟩, HK.out⟩
set_option maxRecDepth 100000 in
theorem rename_nil (w : World) (nm nb : ByteArray) : Calls Try.prog 66 #[.pointer none, .string nm, .string nb] w fun e w' => (∃ v, e = .returned v ∧ ErrV w' 14 v) ∧ Keeps (fun _ => False) w w' := by
  have HB := Lib.hid (begin_nil w nm)
  go_enter Try.func66, Try.ntmps66
  go_wp2_with fail
  refine HB.out.mono ?_
  rintro e w1 ⟨⟨v, rfl, hev⟩, k1⟩
  obtain ⟨ty, x, rfl⟩ := hev.iface (by decide)
  have HE := Lib.hid hev
  have HK := Lib.hid k1
  clear hev k1
  go_wp2_with fail
  go_ret
  exact ⟨⟨_, rfl, HE.out⟩, HK.out⟩
set_option maxRecDepth 100000 in
theorem append_nil (w : World) (nm b : ByteArray) : Calls Try.prog 43 #[.pointer none, .string nm, .string b] w fun e w' => (∃ v, e = .returned v ∧ ErrV w' 14 v) ∧ Keeps (fun _ => False) w w' := by
  have HB := Lib.hid (begin_nil w nm)
  go_enter Try.func43, Try.ntmps43
  go_wp2_with fail
  refine HB.out.mono ?_
  rintro e w1 ⟨⟨v, rfl, hev⟩, k1⟩
  obtain ⟨ty, x, rfl⟩ := hev.iface (by decide)
  have HE := Lib.hid hev
  have HK := Lib.hid k1
  clear hev k1
  go_wp2_with fail
  go_ret
  exact ⟨⟨_, rfl, HE.out⟩, HK.out⟩
set_option maxRecDepth 100000 in
theorem total_nil (w : World) : Calls Try.prog 58 #[.pointer none] w fun e w' => e = .returned (.int .i64 0) ∧ w' = w := by
  go_enter Try.func58, Try.ntmps58
  go_wp2_with (go_at_call 27; refine (made_nil _).mono ?_; rintro e w1 ⟨rfl, rfl⟩)
  go_ret
  exact ⟨rfl, rfl⟩
end Go.Proofs.Ytfbdpmeelejdhaa
