/-
  RingNone returns true, whatever its arguments: the walk.
-/
import Derived.Test.YtclgjcdkjgkchaaWorksA
namespace Go.Proofs.Ytclgjcdkjgkchaa
open Go.RowKit

set_option maxRecDepth 100000 in
set_option maxHeartbeats 1000000 in
theorem ringNone_walk (w : World) (s : ByteArray) (n : Int) (_h1 : s.size ≤ maxLen) (_h2 : (Lit.int .i64 n).wf = true) : Calls Try.prog 5 #[.string s, .int .i64 n] w fun e w' => e = .returned (.bool true) ∧ Keeps (fun _ => False) w w' := by
  go_enter Try.func5, Try.ntmps5
  go_wp2_with (first
    | (go_at_call 23; refine (at_nil _ _).mono ?_; rintro e w' ⟨rfl, n, rfl⟩)
    | (go_at_call 12; refine (put_nil _ _).mono ?_; rintro e w' ⟨rfl, n, rfl⟩)
    | (go_at_call 14; refine (force_nil _ _).mono ?_; rintro e w' ⟨rfl, n, rfl⟩)
    | (go_at_call 16; refine (take_nil _ _).mono ?_; rw [show str [] = ⟨#[]⟩ from rfl]; rintro e w' ⟨rfl, n, rfl⟩)
    | (go_at_call 17; refine (peek_nil _ _).mono ?_; rw [show str [] = ⟨#[]⟩ from rfl]; rintro e w' ⟨rfl, n, rfl⟩)
    | (go_at_call 18; refine (drop_nil _ _).mono ?_; rintro e w' ⟨rfl, n, rfl⟩)
    | (go_at_call 20; refine (text_nil _).mono ?_; rw [show str [] = ⟨#[]⟩ from rfl]; rintro e w' ⟨rfl, n, rfl⟩)
    | (go_at_call 22; refine (len_nil _).mono ?_; rintro e w' ⟨rfl, n, rfl⟩)
    | (go_at_call 24; refine (room_nil _).mono ?_; rintro e w' ⟨rfl, n, rfl⟩)
    | (go_at_call 21; refine (gone_nil _).mono ?_; rintro e w' ⟨rfl, n, rfl⟩)
    | (go_at_call 9; refine (works04 _).mono ?_; rintro e w' ⟨rfl, k1⟩))
  go_ret
  exact ⟨rfl, k1.from_drewN⟩
end Go.Proofs.Ytclgjcdkjgkchaa
