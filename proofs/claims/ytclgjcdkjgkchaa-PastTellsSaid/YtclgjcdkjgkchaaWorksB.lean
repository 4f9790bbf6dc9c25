/-
  The example of the past's statements ('works') comes out true; what is asked of a past that nobody made.
-/
import Derived.Test.YtclgjcdkjgkchaaPastC
namespace Go.Proofs.Ytclgjcdkjgkchaa
open Go.RowKit

set_option maxRecDepth 100000 in
theorem pback_nil (w : World) (L : Int) (_hL : -9223372036854775808 ≤ L) : Calls Try.prog 32 #[.pointer none, .int .i64 L] w (Qt (.int .i64 0) w) := by
  go_enter Try.func32, Try.ntmps32
  go_wp2_with fail
  refine wp_scope_straight ?_
  by_cases h1 : L < 1
  · go_wp2_with (first | (go_at_call 30; refine (pcame_nil _).mono ?_; rintro e w2 ⟨rfl, k2, rfl⟩) | (go_at_call 31; refine (pfrom_nil _).mono ?_; rintro e w3 ⟨rfl, k3, rfl⟩))
    go_step3
    go_wp2_with (first | (go_at_call 31; refine (pfrom_nil _).mono ?_; rintro e w3 ⟨rfl, k3, rfl⟩))
    (try rw [Exit.noGoto_ret])
    go_ret
    exact Qt.of rfl
  · have h2 : 1 ≤ L := by omega
    go_wp2_with (first | (go_at_call 30; refine (pcame_nil _).mono ?_; rintro e w2 ⟨rfl, k2, rfl⟩) | (go_at_call 31; refine (pfrom_nil _).mono ?_; rintro e w3 ⟨rfl, k3, rfl⟩))
    go_step3
    go_wp2_with (first | (go_at_call 31; refine (pfrom_nil _).mono ?_; rintro e w3 ⟨rfl, k3, rfl⟩))
    (try rw [Exit.noGoto_ret])
    go_ret
    exact Qt.of rfl

set_option maxRecDepth 100000 in
set_option maxHeartbeats 1000000 in
theorem works31 (w : World) : Calls Try.prog 26 #[] w fun e w' => e = .returned (.bool true) ∧ Keeps (fun _ => False) w w' := by
  go_enter Try.func26, Try.ntmps26
  go_wp2_with fail
  refine (pnew_ok w 6 (by omega) (by omega)).mono ?_
  rintro e w1 ⟨p, g, b, rfl, hp, hg, hb, k1, r1⟩
  go_wp2_with fail
  refine (pnew_bad _ 0 (by omega)).mono ?_
  rintro e w2 ⟨rfl, n, rfl⟩
  go_wp2_with fail
  refine (padd_any _ p g b 6 [] ⟨#[97, 98, 10, 99, 100]⟩ (r1.drewN _) (by decide) (by decide)).mono ?_
  rintro e w3 ⟨rfl, k3, r3⟩
  have r3 : IsPast w3 p g b 6 [97, 98, 10, 99, 100] := r3
  go_wp2_with fail
  refine (padd_any _ p g b 6 _ ⟨#[101, 10, 102]⟩ r3 (by decide) (by decide)).mono ?_
  rintro e w4 ⟨rfl, k4, r4⟩
  have r4 : IsPast w4 p g b 6 [97, 98, 10, 99, 100, 101, 10, 102] := r4
  go_wp2_with fail
  refine (pslice_yes _ p g b 6 _ 4 8 r4 (by decide) (by decide) (by decide) (by decide)).mono ?_
  rw [show str (List.take ((8 : Int).toNat - (4 : Int).toNat) (List.drop (4 : Int).toNat [97, 98, 10, 99, 100, 101, 10, 102])) = ⟨#[100, 101, 10, 102]⟩ from rfl]
  rintro e w5 ⟨rfl, k5⟩
  have r5 := r4.keeps k5 id id id
  go_wp2_with fail
  refine (pslice_no _ p g b 6 _ 1 3 r5 (by decide) (by decide)).mono ?_
  rintro e w6 ⟨rfl, n6, rfl⟩
  go_wp2_with fail
  refine (pslice_no _ p g b 6 _ 4 10 (r5.drewN _) (by decide) (by decide)).mono ?_
  rintro e w6 ⟨rfl, n7, rfl⟩
  go_wp2_with (first
    | (go_at_call 30; go_must (refine (pcame_yes _ p g b 6 _ (r5.drewN _)).mono ?_; rintro e w6 ⟨rfl, n8, rfl⟩))
    | (go_at_call 31; go_must (refine (pfrom_yes _ p g b 6 _ (r5.drewN _) (by decide)).mono ?_; rintro e w6 ⟨rfl, n9, rfl⟩)))
  refine (pback_yes _ p g b 6 _ 1 (r5.drewN _) (by decide) (by decide)).mono ?_
  rintro e w10 ⟨rfl, k10⟩
  have r10 := (r5.drewN _).keeps k10 id id id
  go_wp2_with fail
  refine (pback_yes _ p g b 6 _ 2 r10 (by decide) (by decide)).mono ?_
  rintro e w11 ⟨rfl, k11⟩
  have r11 := r10.keeps k11 id id id
  go_wp2_with fail
  refine (pback_yes _ p g b 6 _ 9 r11 (by decide) (by decide)).mono ?_
  rintro e w12 ⟨rfl, k12⟩
  have r12 := r11.keeps k12 id id id
  go_wp2_with fail
  refine (pback_yes _ p g b 6 _ 0 r12 (by decide) (by decide)).mono ?_
  rintro e w13 ⟨rfl, k13⟩
  go_wp2_with fail
  go_ret
  refine ⟨rfl, ?_⟩
  have hS : ∀ i, i < w.heap.size → (i = p ∨ i = g ∨ i = b) → False := fun i hi h => by omega
  exact ((((((((k1.and_ k3.from_drewN hS).and_ k4 hS).trans k5).drewN _).trans k10).trans k11).trans k12).trans k13)
end Go.Proofs.Ytclgjcdkjgkchaa
