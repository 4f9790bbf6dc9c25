/-
  An item that may be, out of any (law22's fine; law23's item).
-/
import Derived.Test.YtdbnalocmjkncaaGreatQJourC
namespace Go.Proofs.YtdbnalocmjkncaaGreat
open Go.RowKit Go.Maps

/-- an item that may be -/
def fineI (x : Itm) : Itm := ⟨1 + max 0 (x.kind.tmod 2), max 0 (min x.at_ 1099511627776), x.body.extract 0 (min x.body.size 60)⟩
theorem fineI_ok (x : Itm) : (fineI x).ok := by
  have h := Int.tmod_lt_of_pos x.kind (show (0 : Int) < 2 by omega)
  have hb : (x.body.extract 0 (min x.body.size 60)).size ≤ 60 := by rw [ByteArray.size_extract]; omega
  exact ⟨⟨by show (1 : Int) ≤ 1 + max 0 _; omega, by show 1 + max 0 (x.kind.tmod 2) ≤ 15; omega⟩, ⟨by show (0 : Int) ≤ max 0 _; omega, by show max 0 (min x.at_ 1099511627776) ≤ 1099511627776; omega⟩, by show (x.body.extract 0 _).size ≤ 4096; omega⟩
set_option maxRecDepth 100000 in
theorem item_any (w : World) (x : Itm) (hx : x.good) : Calls Tryz.prog 47 #[itmV x] w fun e w' => e = .returned (itmV (fineI x)) ∧ Keeps (fun _ => False) w w' := by
  obtain ⟨k0, t0, b0⟩ := x
  obtain ⟨⟨hk1, hk2⟩, ⟨ht1, ht2⟩, hb⟩ := hx
  simp only at hk1 hk2 ht1 ht2 hb
  unfold itmV fineI
  simp only
  go_enter Tryz.func47, Tryz.ntmps47
  go_wp2_with fail
  obtain ⟨w1, hw1⟩ : ∃ w1, w1 = (w.alloc (.cells #[.int .i64 k0, .int .i64 t0, .string b0] 42)).alloc (.cells #[.int .i64 0, .int .i64 0, .string { data := #[] }] 42) := ⟨_, rfl⟩
  have HB1 := Lib.hid (show Blk w1 w.heap.size 42 #[.int .i64 k0, .int .i64 t0, .string b0] by rw [hw1]; exact (Blk.new w _ _).alloc _)
  have HB2 := Lib.hid (show Blk w1 (w.heap.size + 1) 42 #[.int .i64 0, .int .i64 0, .string { data := #[] }] by rw [hw1]; exact Blk.newB2 _ _ _ _)
  have HK1 := Lib.hid (show Keeps (fun _ => False) w w1 by rw [hw1]; (repeat (first | (with_reducible assumption) | (with_reducible exact Keeps.refl _ _) | refine Keeps.drew ?_ | refine Keeps.drewN ?_ _ | refine Keeps.setCell ?_ (by simp) _ | refine Keeps.setRow ?_ (by simp) _ | refine Keeps.alloc ?_ _)))
  rw [← hw1]
  clear hw1
  obtain ⟨c0, c1, c2⟩ := HB1.out.cells3
  obtain ⟨⟨d0, d1, d2⟩, f0, f1, f2⟩ := HB2.out.all3
  go_region
  all_goals (go_wp2_with fail)
  all_goals (try simp only [Exit.inBlock, Exit.then])
  all_goals
    refine ret_cell rfl (w.heap.size + 1) 42 _ _ rfl (Blk.setC3 HB2.out.drew _ _ _) Tryz.underlying42 rfl (by kernel_rfl) rfl ⟨?_, HK1.out.drew.setC3 (by omega) _ _ _⟩
    have hm := Int.tmod_lt_of_pos k0 (show (0 : Int) < 2 by omega)
    show Ending.returned (.agg #[.int .i64 (wrap64 (1 + max 0 (k0.tmod 2))), .int .i64 (max 0 (min t0 1099511627776)), .string (b0.extract 0 (min (b0.size : Int) 60).toNat)]) = _
    rw [IntWalk.wrap64_in _ (by omega), show (min (b0.size : Int) 60).toNat = min b0.size 60 by omega]
end Go.Proofs.YtdbnalocmjkncaaGreat
