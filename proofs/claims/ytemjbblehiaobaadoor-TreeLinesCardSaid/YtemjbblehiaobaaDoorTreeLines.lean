/-
  TreeLines returns true, whatever its argument: the walk.
-/
import Derived.Test.YtemjbblehiaobaaDoorWorks13
import Derived.Test.YtemjbblehiaobaaDoorTreeL
namespace Go.Proofs.YtemjbblehiaobaaDoor
open Go.RowKit

set_option maxRecDepth 100000 in
set_option maxHeartbeats 2000000 in
theorem treeLines_walk (w : World) (s : ByteArray) (_hs : s.size ≤ maxLen) (hg : Ety w) : Calls Tryd.prog 3 #[.string s] w fun e w' => e = .returned (.bool true) ∧ Keeps (fun _ => False) w w' := by
  have HG := Lib.hid (fun W (k : Keeps (fun _ => False) w W) => Ety.keeps hg k id)
  have HW := Lib.hid (fun W (k : Keeps (fun _ => False) w W) => works13 W (Ety.keeps hg k id))
  have hsl : s.data.toList.length = s.size := by simp
  clear hg
  by_cases hbig : 2000 < s.size
  · go_enter Tryd.func3, Tryd.ntmps3
    go_wp2_with fail
    refine (HW.out _ (Keeps.refl _ _)).mono ?_
    rintro e w2 ⟨rfl, k2⟩
    go_wp2_with fail
    go_ret
    exact ⟨rfl, k2⟩
  · have hnote := note_tree s.data.toList (by omega)
    have hsz : s.size ≤ 2000 := by omega
    have R1 := Lib.hid (fun W => tread_any W s (by omega))
    have R2 := Lib.hid (fun W => tread_any W (str (noteB ++ s.data.toList)) (by rw [str_size, List.length_append, hsl]; show 7 + s.size ≤ _; omega))
    have HAP : Hid ((⟨#[35, 32, 110, 111, 116, 101, 10]⟩ : ByteArray) ++ s = str (noteB ++ s.data.toList)) := Lib.hid (ba_ext (by rw [append_str, str_list]; rfl))
    obtain ⟨O1, hO1⟩ : ∃ O1, O1 = treeP s.data.toList := ⟨_, rfl⟩
    obtain ⟨O2, hO2⟩ : ∃ O2, O2 = treeP (noteB ++ s.data.toList) := ⟨_, rfl⟩
    rw [← hO1, ← hO2] at hnote
    simp only [str_list, ← hO1, ← hO2] at R1 R2
    have HN := Lib.hid hnote
    clear hO1 hO2 hbig hnote
    go_enter Tryd.func3, Tryd.ntmps3
    go_wp2_with fail
    refine (R1.out _).mono ?_
    rintro e w1 ⟨hok1, hbad1, k1⟩
    have HK1 := Lib.hid k1
    have H1 := Lib.hid (And.intro hok1 hbad1)
    clear hok1 hbad1 k1
    cases O1 with
    | inl e1 =>
      obtain ⟨c1, n1⟩ := e1
      cases O2 with
      | inr b => exact HN.out.elim
      | inl e2 =>
        obtain ⟨⟨hn1, hn2⟩, he2⟩ := HN.out
        subst he2
        simp only at hn1 hn2
        rw [hsl] at hn2
        have hwr : IntKind.i64.wrap (n1 + 1) = n1 + 1 := IntWalk.i64_in _ (by omega)
        obtain ⟨v1, s1, rfl, hc1⟩ := H1.out.2 _ _ rfl
        clear hsl
        have HC1 := Lib.hid (fun W (k : Keeps (fun _ => False) w1 W) => hc1.keeps k (fun _ _ _ => id))
        clear hc1
        go_wp2_with fail
        rw [HAP.out]
        refine (R2.out _).mono ?_
        rintro e w2 ⟨-, hbad2, k2⟩
        obtain ⟨v2, s2, rfl, hc2⟩ := hbad2 _ _ rfl
        have HC2 := Lib.hid (fun W (k : Keeps (fun _ => False) w2 W) => hc2.keeps k (fun _ _ _ => id))
        have HK2 := Lib.hid k2
        clear hc2 hbad2 k2
        go_wp2_with fail
        refine (line_chain w2 _ c1 v1 (HC1.out w2 HK2.out) (HG.out _ (HK1.out.trans HK2.out))).mono ?_
        rintro e w3 ⟨rfl, k3⟩
        rw [show lineOf [(n1, s1)] = n1 by rw [lineOf, if_pos (by omega)]]
        have HK3 := Lib.hid k3
        clear k3
        go_wp2_with fail
        refine (of_chain w3 _ c1 v1 (HC1.out w3 (HK2.out.trans HK3.out)) (HG.out _ ((HK1.out.trans HK2.out).trans HK3.out))).mono ?_
        rintro e w4 ⟨rfl, k4⟩
        have HK4 := Lib.hid (HK3.out.trans k4)
        clear k4
        go_wp2_with fail
        refine (of_chain w4 _ c1 v2 (HC2.out w4 HK4.out) (HG.out _ ((HK1.out.trans HK2.out).trans HK4.out))).mono ?_
        rintro e w5 ⟨rfl, k5⟩
        have HK5 := Lib.hid (HK4.out.trans k5)
        clear k5
        go_wp2_with fail
        refine (line_chain w5 _ c1 v2 (HC2.out w5 HK5.out) (HG.out _ ((HK1.out.trans HK2.out).trans HK5.out))).mono ?_
        rintro e w6 ⟨rfl, k6⟩
        rw [show lineOf [(n1 + 1, s2)] = n1 + 1 by rw [lineOf, if_pos (by omega)]]
        have HK6 := Lib.hid (HK5.out.trans k6)
        clear k6
        go_wp2_with fail
        refine (tsame_any _ [] [] w6 (fun _ => False) (fun _ => False) _ _ (Nat.le_refl _) (by simp [sameL]) NdsAt.none_ NdsAt.none_).mono ?_
        rintro e w7 ⟨rfl, k7⟩
        have HK7 := Lib.hid ((HK1.out.trans HK2.out).trans (HK6.out.trans k7))
        clear k7
        go_wp2_with fail
        refine (HW.out _ HK7.out).mono ?_
        rintro e w8 ⟨rfl, k8⟩
        have HK8 := Lib.hid (HK7.out.trans k8)
        clear k8
        go_wp2_with fail
        go_ret
        exact ⟨rfl, HK8.out⟩
    | inr a =>
      cases O2 with
      | inl e2 => exact HN.out.elim
      | inr b =>
        obtain ⟨v1, rfl, S1, h1, -⟩ := H1.out.1 _ rfl
        have HD1 := Lib.hid h1
        clear h1 hsl
        go_wp2_with fail
        rw [HAP.out]
        refine (R2.out _).mono ?_
        rintro e w2 ⟨hok2, -, k2⟩
        obtain ⟨v2, rfl, S2, h2, -⟩ := hok2 _ rfl
        have HD2 := Lib.hid h2
        have HK2 := Lib.hid k2
        clear h2 hok2 k2
        go_wp2_with fail
        refine (line_nil w2).mono ?_
        rintro e w3 ⟨rfl, k3⟩
        have HK3 := Lib.hid k3
        clear k3
        go_wp2_with fail
        refine (of_nil w3).mono ?_
        rintro e w4 ⟨rfl, k4⟩
        have HK4 := Lib.hid (HK3.out.trans k4)
        clear k4
        go_wp2_with fail
        refine (of_nil w4).mono ?_
        rintro e w5 ⟨rfl, k5⟩
        have HK5 := Lib.hid (HK4.out.trans k5)
        clear k5
        go_wp2_with fail
        refine (line_nil w5).mono ?_
        rintro e w6 ⟨rfl, k6⟩
        have HK6 := Lib.hid (HK5.out.trans k6)
        clear k6
        go_wp2_with fail
        refine (tsame_any _ a b w6 S1 S2 _ _ (Nat.le_refl _) HN.out (Nds.fit HD1.out (HK2.out.trans HK6.out)) (Nds.fit HD2.out HK6.out)).mono ?_
        rintro e w7 ⟨rfl, k7⟩
        have HK7 := Lib.hid ((HK1.out.trans HK2.out).trans (HK6.out.trans k7))
        clear k7
        go_wp2_with fail
        refine (HW.out _ HK7.out).mono ?_
        rintro e w8 ⟨rfl, k8⟩
        have HK8 := Lib.hid (HK7.out.trans k8)
        clear k8
        go_wp2_with fail
        go_ret
        exact ⟨rfl, HK8.out⟩
end Go.Proofs.YtemjbblehiaobaaDoor
