/-
  Errors made, wrapped, and asked for their codes (for seats without the texts of errors).
-/
import Derived.Test.YtgpfmkkkpdpdfaaDoorErrC
namespace Go.Proofs.YtgpfmkkkpdpdfaaDoor
open Go.RowKit

theorem new_nil (w : World) (n : Int) (s : ByteArray) : Calls Tryd.prog 69 #[.int .i64 0, .int .i64 n, .string s] w fun e w' => e = .returned .nilIface ∧ w' = w := by
  go_enter Tryd.func69, Tryd.ntmps69
  go_wp2
  go_ret
  exact ⟨rfl, rfl⟩
theorem new_flt (w : World) (c n : Int) (s : ByteArray) (hc : c ≠ 0) : Calls Tryd.prog 69 #[.int .i64 c, .int .i64 n, .string s] w fun e w' =>
    e = .returned (.iface 131 (.pointer (some ⟨w.heap.size, 0, none⟩))) ∧ w' = w.alloc (.cells #[.int .i64 n, .string s, .iface 118 (.int .i64 c)] 133) := by
  have h : (c == 0) = false := beq_eq_false_iff_ne.2 hc
  go_enter Tryd.func69, Tryd.ntmps69
  go_wp2
  go_ret
  exact ⟨rfl, rfl⟩
theorem wrap_nil (w : World) (n : Int) (s : ByteArray) : Calls Tryd.prog 56 #[.nilIface, .int .i64 n, .string s] w fun e w' => e = .returned .nilIface ∧ w' = w := by
  go_enter Tryd.func56, Tryd.ntmps56
  go_wp2
  go_ret
  exact ⟨rfl, rfl⟩
theorem wrap_flt (w : World) (ty : TypeId) (x : Value) (n : Int) (s : ByteArray) : Calls Tryd.prog 56 #[.iface ty x, .int .i64 n, .string s] w fun e w' =>
    e = .returned (.iface 131 (.pointer (some ⟨w.heap.size, 0, none⟩))) ∧ w' = w.alloc (.cells #[.int .i64 n, .string s, .iface ty x] 133) := by
  go_enter Tryd.func56, Tryd.ntmps56
  go_wp2
  go_ret
  exact ⟨rfl, rfl⟩
set_option maxRecDepth 100000 in
theorem of_nil (w : World) : Calls Tryd.prog 37 #[.nilIface] w fun e w' => e = .returned (.int .i64 0) ∧ Keeps (fun _ => False) w w' := by
  go_enter Tryd.func37, Tryd.ntmps37
  go_wp2
  go_ret
  exact ⟨rfl, (Keeps.refl _ _).alloc _⟩

set_option maxRecDepth 100000 in
theorem of_chain (w : World) (l : List (Int × ByteArray)) (c : Int) (v : Value) (h : Chain w l c v) (hg : Ety w) :
    Calls Tryd.prog 37 #[v] w fun e w' => e = .returned (.int .i64 c) ∧ Keeps (fun _ => False) w w' := by
  have hk : Keeps (fun _ => False) w (w.alloc (.cells #[.int .i64 0] tKind)) := (Keeps.refl _ w).alloc _
  have HA := Lib.hid (as_kind c 0 w.heap.size l v _ (h.keeps hk (fun _ _ _ => id)) (hg.keeps hk id) (Blk.new w tKind #[.int .i64 0]))
  obtain ⟨ty, x, rfl⟩ := h.form
  clear h hg
  go_enter Tryd.func37, Tryd.ntmps37
  go_wp2_with (go_at_call 74; go_must (refine HA.out.mono ?_; rintro e w2 ⟨rfl, k2, hb⟩; have hcell := hb.cell 0; simp only [List.getElem?_toArray, List.getElem?_cons_zero] at hcell))
  go_ret
  exact ⟨rfl, hk.and_ k2 (fun i hi e => by omega)⟩

theorem has_chain (w : World) (l : List (Int × ByteArray)) (c d : Int) (v : Value) (h : Chain w l c v) :
    Calls Tryd.prog 68 #[v, .int .i64 d] w fun e w' => e = .returned (.bool (decide (d ≠ 0 ∧ c = d))) ∧ Keeps (fun _ => False) w w' := by
  have hi := is_ok c d l v w h
  obtain ⟨ty, x, rfl⟩ := h.form
  clear h
  by_cases hd : d = 0
  · subst hd
    clear hi
    go_enter Tryd.func68, Tryd.ntmps68
    go_wp2
    go_ret
    exact ⟨rfl, Keeps.refl _ _⟩
  · have h1 : (d != 0) = true := by simpa using hd
    have h2 : decide (d ≠ 0 ∧ c = d) = decide (c = d) := by simp [hd]
    have H2 := Lib.hid h2
    have HI := Lib.hid hi
    clear h2 hi
    go_enter Tryd.func68, Tryd.ntmps68
    go_wp2_with (go_at_call 98; go_must (refine HI.out.mono ?_; rintro e w2 ⟨rfl, rfl⟩))
    go_ret
    exact ⟨by rw [H2.out]; rfl, Keeps.refl _ _⟩
set_option maxRecDepth 100000 in
theorem has_nil (w : World) (d : Int) :
    Calls Tryd.prog 68 #[.nilIface, .int .i64 d] w fun e w' => e = .returned (.bool false) ∧ Keeps (fun _ => False) w w' := by
  by_cases hd : d = 0
  · subst hd
    go_enter Tryd.func68, Tryd.ntmps68
    go_wp2
    go_ret
    exact ⟨rfl, Keeps.refl _ _⟩
  · have h1 : (d != 0) = true := by simpa using hd
    have hi : ∀ w, Calls Tryd.prog 98 #[.nilIface, .iface tKind (.int .i64 d)] w fun e w' => e = .returned (.bool false) ∧ w' = w := by
      intro w
      have hq := fun w => run_eql_iface_nil_left (P := Tryd.prog) (w := w) tKind (.int .i64 d) Tryd.underlying38
      go_enter Tryd.func98, Tryd.ntmps98
      go_wp2
      go_ret
      exact ⟨rfl, rfl⟩
    have HI := Lib.hid hi
    clear hi
    go_enter Tryd.func68, Tryd.ntmps68
    go_wp2_with (go_at_call 98; go_must (refine (HI.out _).mono ?_; rintro e w2 ⟨rfl, rfl⟩))
    go_ret
    exact ⟨rfl, Keeps.refl _ _⟩

end Go.Proofs.YtgpfmkkkpdpdfaaDoor
