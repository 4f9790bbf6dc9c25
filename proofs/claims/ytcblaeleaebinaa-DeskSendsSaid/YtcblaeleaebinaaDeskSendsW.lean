/-
  DeskSends returns true, whatever its arguments: all together.
-/
import Derived.Test.YtcblaeleaebinaaDeskSends
namespace Go.Proofs.Ytcblaeleaebinaa
open Go.RowKit

set_option maxRecDepth 100000 in
theorem deskSends_walk (w : World) (most : Int) (a : Option Addr) (n cap : Nat) (l : List Op32) (_hm : (Lit.int .i64 most).wf = true) (hl : SlAt opR32 3 w a n l ∧ ∀ x ∈ l, x.good) :
    Calls Try.prog 4 #[.int .i64 most, .slice a n cap] w fun e w' => e = .returned (.bool true) ∧ Keeps (fun _ => False) w w' := by
  obtain ⟨hl1, hl2⟩ := hl
  by_cases hn : n ≤ 60
  · by_cases hm : 1 ≤ most ∧ most ≤ 1048576
    · obtain ⟨m, rfl⟩ := Int.eq_ofNat_of_zero_le (show 0 ≤ most by omega)
      exact sends_loop w m a n cap l (by omega) hn hl1 hl2
    · have hbad := dnew_bad w most (by omega)
      have HB := Lib.hid hbad
      clear hbad hl1 hl2
      rcases (show most < 1 ∨ (1 ≤ most ∧ 1048576 < most) from by omega) with h1 | ⟨h1, h2⟩
      · clear hm
        go_enter Try.func4, Try.ntmps4
        go_wp2_with fail
        refine HB.out.mono ?_
        rintro e w1 ⟨rfl, n1, rfl⟩
        go_wp2_with fail
        refine (pnew_ok _ 8000 (by decide) (by decide)).mono ?_
        rintro e w2 ⟨p, g, b, rfl, -, -, -, k2, -⟩
        have HK2 := Lib.hid ((((Keeps.refl (fun _ => False) w).drewN n1)).trans k2)
        clear k2
        go_wp2_with (go_at_call 10; refine (works32 _).mono ?_; rintro e w3 ⟨rfl, k3⟩)
        go_ret
        exact ⟨rfl, HK2.out.trans k3⟩
      · clear hm
        have h1' : ¬ most < 1 := by omega
        go_enter Try.func4, Try.ntmps4
        go_wp2_with fail
        refine HB.out.mono ?_
        rintro e w1 ⟨rfl, n1, rfl⟩
        go_wp2_with fail
        refine (pnew_ok _ 8000 (by decide) (by decide)).mono ?_
        rintro e w2 ⟨p, g, b, rfl, -, -, -, k2, -⟩
        have HK2 := Lib.hid ((((Keeps.refl (fun _ => False) w).drewN n1)).trans k2)
        clear k2
        go_wp2_with (go_at_call 10; refine (works32 _).mono ?_; rintro e w3 ⟨rfl, k3⟩)
        go_ret
        exact ⟨rfl, HK2.out.trans k3⟩
  · go_enter Try.func4, Try.ntmps4
    go_wp2_with (go_at_call 10; refine (works32 _).mono ?_; rintro e w2 ⟨rfl, k2⟩)
    go_ret
    exact ⟨rfl, k2⟩
end Go.Proofs.Ytcblaeleaebinaa
