/-
  law34.BoardWords: the words of any states, roles, levels and kinds, and any size, are what the chapter says.
-/
import Derived.Test.YtgpfmkkkpdpdfaaDoorBrdF
namespace Go.Proofs.YtgpfmkkkpdpdfaaDoor
open Go.RowKit

set_option maxRecDepth 100000 in
set_option maxHeartbeats 2000000 in
theorem boardWords_walk (w : World) (n : Int) (is : Bool) (s : ByteArray) (hn : (Lit.int .i64 n).wf = true) (_hs : s.size ≤ maxLen) (hm : MaxL w) :
    Calls Tryd.prog 6 #[.int .i64 n, .bool is, .string s] w fun e w' => e = .returned (.bool true) ∧ Keeps (fun _ => False) w w' := by
  have hn0 : -9223372036854775808 ≤ n ∧ n ≤ 9223372036854775807 := by simpa [Lit.wf, IntKind.min, IntKind.max, IntKind.signed, IntKind.bits] using hn
  obtain ⟨h1, h2⟩ := hn0
  clear hn
  have HM := Lib.hid hm
  clear hm
  have hy : ∀ w, Calls Tryd.prog 31 #[.bool is, .string s] w fun e w' => e = .returned (.string (if is then s else ⟨#[45]⟩)) ∧ Keeps (fun _ => False) w w' := fun w => Qt.k (yes_any w is s)
  have HY := Lib.hid hy
  obtain ⟨S1, hS1⟩ : ∃ S1, S1 = wordP n stateW := ⟨_, rfl⟩
  obtain ⟨S2, hS2⟩ : ∃ S2, S2 = wordP n roleW := ⟨_, rfl⟩
  obtain ⟨S3, hS3⟩ : ∃ S3, S3 = wordP n levelW := ⟨_, rfl⟩
  obtain ⟨S4, hS4⟩ : ∃ S4, S4 = wordP n kindW := ⟨_, rfl⟩
  obtain ⟨S5, hS5⟩ : ∃ S5, S5 = sizeP n := ⟨_, rfl⟩
  have A1 := fun w => state_any w n
  have A2 := fun w => role_any w n
  have A3 := fun w => level_any w n
  have A4 := fun w => kind_any w n
  have A5 := fun w => size34 w n h1 h2
  have B1 := fun w a c h => rword_any w n a 6 c stateW h (by decide)
  have B2 := fun w a c h => rword_any w n a 4 c roleW h (by decide)
  have B3 := fun w a c h => rword_any w n a 4 c levelW h (by decide)
  have B4 := fun w a c h => rword_any w n a 3 c kindW h (by decide)
  have B5 := fun w => rsize34 w n h1 h2
  rw [← hS1] at A1 B1
  rw [← hS2] at A2 B2
  rw [← hS3] at A3 B3
  rw [← hS4] at A4 B4
  rw [← hS5] at A5 B5
  have A1 := Lib.hid A1
  have A2 := Lib.hid A2
  have A3 := Lib.hid A3
  have A4 := Lib.hid A4
  have A5 := Lib.hid A5
  have B1 := Lib.hid B1
  have B2 := Lib.hid B2
  have B3 := Lib.hid B3
  have B4 := Lib.hid B4
  have B5 := Lib.hid B5
  have K0 := Lib.hid (Keeps.refl (fun _ => False) w)
  clear hy hS1 hS2 hS3 hS4 hS5
  cases is
  · go_enter Tryd.func6, Tryd.ntmps6
    go_wp2_with fail
    refine (A1.out _).mono ?_
    rintro e w1 ⟨rfl, k1⟩
    have K1 := Lib.hid (K0.out.trans k1)
    clear k1
    go_wp2_with fail
    refine (B1.out _ _ _ (slat_new _ _ stateW)).mono ?_
    rintro e w2 ⟨rfl, hw2⟩
    have K2 := Lib.hid (show Keeps (fun _ => False) w w2 by rw [← hw2]; exact K1.out.alloc _)
    clear hw2
    go_wp2_with fail
    refine (A2.out _).mono ?_
    rintro e w3 ⟨rfl, k3⟩
    have K3 := Lib.hid (K2.out.trans k3)
    clear k3
    go_wp2_with fail
    refine (B2.out _ _ _ (slat_new _ _ roleW)).mono ?_
    rintro e w4 ⟨rfl, hw4⟩
    have K4 := Lib.hid (show Keeps (fun _ => False) w w4 by rw [← hw4]; exact K3.out.alloc _)
    clear hw4
    go_wp2_with fail
    refine (A3.out _).mono ?_
    rintro e w5 ⟨rfl, k5⟩
    have K5 := Lib.hid (K4.out.trans k5)
    clear k5
    go_wp2_with fail
    refine (B3.out _ _ _ (slat_new _ _ levelW)).mono ?_
    rintro e w6 ⟨rfl, hw6⟩
    have K6 := Lib.hid (show Keeps (fun _ => False) w w6 by rw [← hw6]; exact K5.out.alloc _)
    clear hw6
    go_wp2_with fail
    refine (A4.out _).mono ?_
    rintro e w7 ⟨rfl, k7⟩
    have K7 := Lib.hid (K6.out.trans k7)
    clear k7
    go_wp2_with fail
    refine (B4.out _ _ _ (slat_new _ _ kindW)).mono ?_
    rintro e w8 ⟨rfl, hw8⟩
    have K8 := Lib.hid (show Keeps (fun _ => False) w w8 by rw [← hw8]; exact K7.out.alloc _)
    clear hw8
    go_wp2_with fail
    refine (A5.out _).mono ?_
    rintro e w9 ⟨rfl, k9⟩
    have K9 := Lib.hid (K8.out.trans k9)
    clear k9
    go_wp2_with fail
    refine (B5.out _).mono ?_
    rintro e w10 ⟨rfl, k10⟩
    have K10 := Lib.hid (K9.out.trans k10)
    clear k10
    go_wp2_with fail
    refine (HY.out _).mono ?_
    rintro e w11 ⟨rfl, k11⟩
    have K11 := Lib.hid (K10.out.trans k11)
    clear k11
    simp only [Bool.false_eq_true, if_false]
    go_wp2_with fail
    refine (works34 _ (HM.out.keeps K11.out)).mono ?_
    rintro e w12 ⟨rfl, k12⟩
    go_wp2_with fail
    go_ret
    exact ⟨rfl, K11.out.trans k12⟩
  · go_enter Tryd.func6, Tryd.ntmps6
    go_wp2_with fail
    refine (A1.out _).mono ?_
    rintro e w1 ⟨rfl, k1⟩
    have K1 := Lib.hid (K0.out.trans k1)
    clear k1
    go_wp2_with fail
    refine (B1.out _ _ _ (slat_new _ _ stateW)).mono ?_
    rintro e w2 ⟨rfl, hw2⟩
    have K2 := Lib.hid (show Keeps (fun _ => False) w w2 by rw [← hw2]; exact K1.out.alloc _)
    clear hw2
    go_wp2_with fail
    refine (A2.out _).mono ?_
    rintro e w3 ⟨rfl, k3⟩
    have K3 := Lib.hid (K2.out.trans k3)
    clear k3
    go_wp2_with fail
    refine (B2.out _ _ _ (slat_new _ _ roleW)).mono ?_
    rintro e w4 ⟨rfl, hw4⟩
    have K4 := Lib.hid (show Keeps (fun _ => False) w w4 by rw [← hw4]; exact K3.out.alloc _)
    clear hw4
    go_wp2_with fail
    refine (A3.out _).mono ?_
    rintro e w5 ⟨rfl, k5⟩
    have K5 := Lib.hid (K4.out.trans k5)
    clear k5
    go_wp2_with fail
    refine (B3.out _ _ _ (slat_new _ _ levelW)).mono ?_
    rintro e w6 ⟨rfl, hw6⟩
    have K6 := Lib.hid (show Keeps (fun _ => False) w w6 by rw [← hw6]; exact K5.out.alloc _)
    clear hw6
    go_wp2_with fail
    refine (A4.out _).mono ?_
    rintro e w7 ⟨rfl, k7⟩
    have K7 := Lib.hid (K6.out.trans k7)
    clear k7
    go_wp2_with fail
    refine (B4.out _ _ _ (slat_new _ _ kindW)).mono ?_
    rintro e w8 ⟨rfl, hw8⟩
    have K8 := Lib.hid (show Keeps (fun _ => False) w w8 by rw [← hw8]; exact K7.out.alloc _)
    clear hw8
    go_wp2_with fail
    refine (A5.out _).mono ?_
    rintro e w9 ⟨rfl, k9⟩
    have K9 := Lib.hid (K8.out.trans k9)
    clear k9
    go_wp2_with fail
    refine (B5.out _).mono ?_
    rintro e w10 ⟨rfl, k10⟩
    have K10 := Lib.hid (K9.out.trans k10)
    clear k10
    go_wp2_with fail
    refine (HY.out _).mono ?_
    rintro e w11 ⟨rfl, k11⟩
    have K11 := Lib.hid (K10.out.trans k11)
    clear k11
    simp only [if_true]
    go_wp2_with fail
    refine (works34 _ (HM.out.keeps K11.out)).mono ?_
    rintro e w12 ⟨rfl, k12⟩
    go_wp2_with fail
    go_ret
    exact ⟨rfl, K11.out.trans k12⟩
end Go.Proofs.YtgpfmkkkpdpdfaaDoor
