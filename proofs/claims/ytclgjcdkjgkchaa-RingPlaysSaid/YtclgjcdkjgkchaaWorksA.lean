/-
  The example of the ring's statements ('works') comes out true.
-/
import Derived.Test.YtclgjcdkjgkchaaRingD
namespace Go.Proofs.Ytclgjcdkjgkchaa
open Go.RowKit

set_option maxRecDepth 100000 in
set_option maxHeartbeats 1000000 in
theorem works04 (w : World) : Calls Try.prog 9 #[] w fun e w' => e = .returned (.bool true) ∧ Keeps (fun _ => False) w w' := by
  go_enter Try.func9, Try.ntmps9
  go_wp2_with fail
  refine (new_ok w 4 (by omega) (by omega)).mono ?_
  rintro e w1 ⟨g, b, rfl, hg, hb, k1, r1⟩
  go_wp2_with fail
  refine (new_bad _ 0 (by omega)).mono ?_
  rintro e w2 ⟨rfl, n, rfl⟩
  go_wp2_with fail
  refine (iput_any _ g b 4 [] 0 ⟨#[97, 98, 99]⟩ (r1.drewN _) (by decide)).mono ?_
  rintro e w3 ⟨rfl, k3, r3⟩
  have r3 : IsRing w3 g b 4 [97, 98, 99] 0 := r3
  go_wp2_with fail
  refine (iput_any _ g b 4 [97, 98, 99] 0 ⟨#[100, 101]⟩ r3 (by decide)).mono ?_
  rintro e w4 ⟨rfl, k4, r4⟩
  have r4 : IsRing w4 g b 4 [97, 98, 99] 0 := r4
  go_wp2_with fail
  refine (force_any _ g b 4 [97, 98, 99] 0 ⟨#[100, 101]⟩ r4 (by decide) (by decide)).mono ?_
  rintro e w5 ⟨rfl, k5, r5⟩
  have r5 : IsRing w5 g b 4 [98, 99, 100, 101] 1 := r5
  go_wp2_with fail
  refine (iat_any _ g b 4 _ 1 3 r5).mono ?_
  rintro e w6 ⟨rfl, n6, rfl⟩
  go_wp2_with fail
  refine (itake_any _ g b 4 _ 1 2 (r5.drewN _) (by decide)).mono ?_
  rw [show str (List.take (2 : Int).toNat [98, 99, 100, 101]) = ⟨#[98, 99]⟩ from rfl]
  rintro e w7 ⟨rfl, k7, r7⟩
  have r7 : IsRing w7 g b 4 [100, 101] 3 := r7
  go_wp2_with fail
  refine (itext_any _ g b 4 _ _ r7).mono ?_
  rw [show str [100, 101] = ⟨#[100, 101]⟩ from rfl]
  rintro e w8 ⟨rfl, k8⟩
  have r8 := r7.keeps k8 id id
  go_wp2_with fail
  refine (iroom_any _ g b 4 _ _ r8).mono ?_
  rintro e w9 ⟨rfl, n9, rfl⟩
  go_wp2_with fail
  refine (igone_any _ g b 4 _ _ (r8.drewN _)).mono ?_
  rintro e w9 ⟨rfl, n10, rfl⟩
  go_wp2_with fail
  refine (force_any _ g b 4 _ _ ⟨#[117, 118, 119, 120, 121, 122]⟩ (r8.drewN _) (by decide) (by decide)).mono ?_
  rintro e w10 ⟨rfl, k10, r10⟩
  have r10 : IsRing w10 g b 4 [119, 120, 121, 122] 7 := r10
  go_wp2_with fail
  refine (itext_any _ g b 4 _ _ r10).mono ?_
  rw [show str [119, 120, 121, 122] = ⟨#[119, 120, 121, 122]⟩ from rfl]
  rintro e w11 ⟨rfl, k11⟩
  have r11 := r10.keeps k11 id id
  go_wp2_with fail
  refine (igone_any _ g b 4 _ _ r11).mono ?_
  rintro e w12 ⟨rfl, n12, rfl⟩
  go_wp2_with fail
  go_ret
  refine ⟨rfl, ?_⟩
  have hS : ∀ i, i < w.heap.size → (i = g ∨ i = b) → False := fun i hi h => by omega
  exact (((((((k1.and_ k3.from_drewN hS).and_ k4 hS).and_ k5 hS).and_ k7.from_drewN hS).trans k8).and_ k10.from_drewN hS).trans k11).drewN _
end Go.Proofs.Ytclgjcdkjgkchaa
