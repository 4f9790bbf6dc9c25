/-
  StoreNone: a store that nobody made has no files, and takes none.
-/
import Derived.Test.YtgpfmkkkpdpdfaaDoorWorks11
namespace Go.Proofs.YtgpfmkkkpdpdfaaDoor
open Go.RowKit Go.Maps

set_option maxRecDepth 100000 in
set_option maxHeartbeats 1000000 in
theorem storeNone_walk (w : World) (a b : ByteArray) (n : Int) (_ha : a.size ≤ maxLen) (_hb : b.size ≤ maxLen) (_hn : Lit.wf (.int .i64 n) = true) (he : Ety w) :
    Calls Tryd.prog 10 #[.string a, .string b, .int .i64 n] w fun e w' => e = .returned (.bool true) ∧ Keeps (fun _ => False) w w' := by
  have HE := Lib.hid he
  clear he
  go_enter Tryd.func10, Tryd.ntmps10
  go_wp2_with fail
  refine (fail_nil _ n).mono ?_
  rintro e w1 ⟨rfl, hw⟩
  obtain rfl : w = w1 := hw.symm
  go_wp2_with fail
  refine (crash_nil _ _ _ _).mono ?_
  rintro e w2 ⟨rfl, hw⟩
  have hk : Keeps (fun _ => False) w w2 := by rw [hw]; exact (Keeps.refl _ _).alloc _
  have HK2 := Lib.hid hk
  clear hw hk
  go_wp2_with fail
  refine (read_nil _ a).mono ?_
  rintro e w3 ⟨rfl, hw⟩
  obtain rfl : w2 = w3 := hw.symm
  go_wp2_with fail
  refine (size_nil _ a).mono ?_
  rintro e w4 ⟨rfl, hw⟩
  obtain rfl : w2 = w4 := hw.symm
  go_wp2_with fail
  refine (append_nil _ a b).mono ?_
  rintro e w5 ⟨⟨v, rfl, E⟩, k⟩
  have HE5 := Lib.hid E
  have HK5 := Lib.hid (HK2.out.trans k)
  clear E k
  go_wp2_with fail
  refine (of_err _ HE5.out (ety_keeps HE.out HK5.out (fun _ _ => id))).mono ?_
  rintro e w6 ⟨rfl, k⟩
  have HK6 := Lib.hid (HK5.out.trans k)
  clear k
  go_wp2_with fail
  refine (sync_nil _ a).mono ?_
  rintro e w7 ⟨⟨v, rfl, E⟩, k⟩
  have HE7 := Lib.hid E
  have HK7 := Lib.hid (HK6.out.trans k)
  clear E k
  go_wp2_with fail
  refine (of_err _ HE7.out (ety_keeps HE.out HK7.out (fun _ _ => id))).mono ?_
  rintro e w8 ⟨rfl, k⟩
  have HK8 := Lib.hid (HK7.out.trans k)
  clear k
  go_wp2_with fail
  refine (rename_nil _ a b).mono ?_
  rintro e w9 ⟨⟨v, rfl, E⟩, k⟩
  have HE9 := Lib.hid E
  have HK9 := Lib.hid (HK8.out.trans k)
  clear E k
  go_wp2_with fail
  refine (of_err _ HE9.out (ety_keeps HE.out HK9.out (fun _ _ => id))).mono ?_
  rintro e w10 ⟨rfl, k⟩
  have HK10 := Lib.hid (HK9.out.trans k)
  clear k
  go_wp2_with fail
  refine (remove_nil _ a).mono ?_
  rintro e w11 ⟨⟨v, rfl, E⟩, k⟩
  have HE11 := Lib.hid E
  have HK11 := Lib.hid (HK10.out.trans k)
  clear E k
  go_wp2_with fail
  refine (of_err _ HE11.out (ety_keeps HE.out HK11.out (fun _ _ => id))).mono ?_
  rintro e w12 ⟨rfl, k⟩
  have HK12 := Lib.hid (HK11.out.trans k)
  clear k
  go_wp2_with fail
  refine (total_nil _).mono ?_
  rintro e w13 ⟨rfl, hw⟩
  obtain rfl : w12 = w13 := hw.symm
  go_wp2_with fail
  refine (names_nil _).mono ?_
  rintro e w14 ⟨rfl, hw⟩
  obtain rfl : w12 = w14 := hw.symm
  go_wp2_with fail
  refine (copy_nil _).mono ?_
  rintro e w15 ⟨rfl, hw⟩
  obtain rfl : w12 = w15 := hw.symm
  go_wp2_with fail
  refine (works11 _ (ety_keeps HE.out HK12.out (fun _ _ => id))).mono ?_
  rintro e w16 ⟨rfl, k⟩
  have HK16 := Lib.hid (HK12.out.trans k)
  clear k
  go_wp2_with fail
  go_ret
  exact ⟨rfl, HK16.out⟩
end Go.Proofs.YtgpfmkkkpdpdfaaDoor
