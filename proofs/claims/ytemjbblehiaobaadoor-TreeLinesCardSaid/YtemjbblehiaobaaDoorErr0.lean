/-
  Errors made, wrapped, and asked for their codes (for seats without the texts of errors).
-/
import Derived.Test.YtemjbblehiaobaaDoorErrC
namespace Go.Proofs.YtemjbblehiaobaaDoor
open Go.RowKit

theorem new_nil (w : World) (n : Int) (s : ByteArray) : Calls Tryd.prog 22 #[.int .i64 0, .int .i64 n, .string s] w fun e w' => e = .returned .nilIface ∧ w' = w := by
  go_enter Tryd.func22, Tryd.ntmps22
  go_wp2
  go_ret
  exact ⟨rfl, rfl⟩
theorem new_flt (w : World) (c n : Int) (s : ByteArray) (hc : c ≠ 0) : Calls Tryd.prog 22 #[.int .i64 c, .int .i64 n, .string s] w fun e w' =>
    e = .returned (.iface 46 (.pointer (some ⟨w.heap.size, 0, none⟩))) ∧ w' = w.alloc (.cells #[.int .i64 n, .string s, .iface 51 (.int .i64 c)] 50) := by
  have h : (c == 0) = false := beq_eq_false_iff_ne.2 hc
  go_enter Tryd.func22, Tryd.ntmps22
  go_wp2
  go_ret
  exact ⟨rfl, rfl⟩
set_option maxRecDepth 100000 in
theorem of_nil (w : World) : Calls Tryd.prog 7 #[.nilIface] w fun e w' => e = .returned (.int .i64 0) ∧ Keeps (fun _ => False) w w' := by
  go_enter Tryd.func7, Tryd.ntmps7
  go_wp2
  go_ret
  exact ⟨rfl, (Keeps.refl _ _).alloc _⟩

set_option maxRecDepth 100000 in
theorem of_chain (w : World) (l : List (Int × ByteArray)) (c : Int) (v : Value) (h : Chain w l c v) (hg : Ety w) :
    Calls Tryd.prog 7 #[v] w fun e w' => e = .returned (.int .i64 c) ∧ Keeps (fun _ => False) w w' := by
  have hk : Keeps (fun _ => False) w (w.alloc (.cells #[.int .i64 0] tKind)) := (Keeps.refl _ w).alloc _
  have HA := Lib.hid (as_kind c 0 w.heap.size l v _ (h.keeps hk (fun _ _ _ => id)) (hg.keeps hk id) (Blk.new w tKind #[.int .i64 0]))
  obtain ⟨ty, x, rfl⟩ := h.form
  clear h hg
  go_enter Tryd.func7, Tryd.ntmps7
  go_wp2_with (go_at_call 16; go_must (refine HA.out.mono ?_; rintro e w2 ⟨rfl, k2, hb⟩; have hcell := hb.cell 0; simp only [List.getElem?_toArray, List.getElem?_cons_zero] at hcell))
  go_ret
  exact ⟨rfl, hk.and_ k2 (fun i hi e => by omega)⟩

end Go.Proofs.YtemjbblehiaobaaDoor
