/-
  Errors made, wrapped, and asked for their codes (for seats without the texts of errors).
-/
import Derived.Test.YtfbdpmeelejdhaaQErrC
namespace Go.Proofs.Ytfbdpmeelejdhaa
open Go.RowKit

theorem new_nil (w : World) (n : Int) (s : ByteArray) : Calls Try.prog 20 #[.int .i64 0, .int .i64 n, .string s] w fun e w' => e = .returned .nilIface ∧ w' = w := by
  go_enter Try.func20, Try.ntmps20
  go_wp2
  go_ret
  exact ⟨rfl, rfl⟩
theorem new_flt (w : World) (c n : Int) (s : ByteArray) (hc : c ≠ 0) : Calls Try.prog 20 #[.int .i64 c, .int .i64 n, .string s] w fun e w' =>
    e = .returned (.iface 77 (.pointer (some ⟨w.heap.size, 0, none⟩))) ∧ w' = w.alloc (.cells #[.int .i64 n, .string s, .iface 78 (.int .i64 c)] 80) := by
  have h : (c == 0) = false := beq_eq_false_iff_ne.2 hc
  go_enter Try.func20, Try.ntmps20
  go_wp2
  go_ret
  exact ⟨rfl, rfl⟩
theorem wrap_nil (w : World) (n : Int) (s : ByteArray) : Calls Try.prog 56 #[.nilIface, .int .i64 n, .string s] w fun e w' => e = .returned .nilIface ∧ w' = w := by
  go_enter Try.func56, Try.ntmps56
  go_wp2
  go_ret
  exact ⟨rfl, rfl⟩
theorem wrap_flt (w : World) (ty : TypeId) (x : Value) (n : Int) (s : ByteArray) : Calls Try.prog 56 #[.iface ty x, .int .i64 n, .string s] w fun e w' =>
    e = .returned (.iface 77 (.pointer (some ⟨w.heap.size, 0, none⟩))) ∧ w' = w.alloc (.cells #[.int .i64 n, .string s, .iface ty x] 80) := by
  go_enter Try.func56, Try.ntmps56
  go_wp2
  go_ret
  exact ⟨rfl, rfl⟩
theorem has_chain (w : World) (l : List (Int × ByteArray)) (c d : Int) (v : Value) (h : Chain w l c v) :
    Calls Try.prog 70 #[v, .int .i64 d] w fun e w' => e = .returned (.bool (decide (d ≠ 0 ∧ c = d))) ∧ Keeps (fun _ => False) w w' := by
  have hi := is_ok c d l v w h
  obtain ⟨ty, x, rfl⟩ := h.form
  clear h
  by_cases hd : d = 0
  · subst hd
    clear hi
    go_enter Try.func70, Try.ntmps70
    go_wp2
    go_ret
    exact ⟨rfl, Keeps.refl _ _⟩
  · have h1 : (d != 0) = true := by simpa using hd
    have h2 : decide (d ≠ 0 ∧ c = d) = decide (c = d) := by simp [hd]
    have H2 := Lib.hid h2
    have HI := Lib.hid hi
    clear h2 hi
    go_enter Try.func70, Try.ntmps70
    go_wp2_with (go_at_call 36; go_must (refine HI.out.mono ?_; rintro e w2 ⟨rfl, rfl⟩))
    go_ret
    exact ⟨by rw [H2.out]; rfl, Keeps.refl _ _⟩
set_option maxRecDepth 100000 in
theorem has_nil (w : World) (d : Int) :
    Calls Try.prog 70 #[.nilIface, .int .i64 d] w fun e w' => e = .returned (.bool false) ∧ Keeps (fun _ => False) w w' := by
  by_cases hd : d = 0
  · subst hd
    go_enter Try.func70, Try.ntmps70
    go_wp2
    go_ret
    exact ⟨rfl, Keeps.refl _ _⟩
  · have h1 : (d != 0) = true := by simpa using hd
    have hi : ∀ w, Calls Try.prog 36 #[.nilIface, .iface tKind (.int .i64 d)] w fun e w' => e = .returned (.bool false) ∧ w' = w := by
      intro w
      have hq := fun w => run_eql_iface_nil_left (P := Try.prog) (w := w) tKind (.int .i64 d) Try.underlying26
      go_enter Try.func36, Try.ntmps36
      go_wp2
      go_ret
      exact ⟨rfl, rfl⟩
    have HI := Lib.hid hi
    clear hi
    go_enter Try.func70, Try.ntmps70
    go_wp2_with (go_at_call 36; go_must (refine (HI.out _).mono ?_; rintro e w2 ⟨rfl, rfl⟩))
    go_ret
    exact ⟨rfl, Keeps.refl _ _⟩

end Go.Proofs.Ytfbdpmeelejdhaa
