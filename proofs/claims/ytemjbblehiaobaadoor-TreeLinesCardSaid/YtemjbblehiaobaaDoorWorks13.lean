/-
  The example of the statements about trees.
-/
import Derived.Test.YtemjbblehiaobaaDoorTreeI
namespace Go.Proofs.YtemjbblehiaobaaDoor
open Go.RowKit
set_option maxRecDepth 100000 in
set_option maxHeartbeats 2000000 in
theorem works13 (w : World) (hg : Ety w) : Calls Tryd.prog 4 #[] w fun e w' => e = .returned (.bool true) ∧ Keeps (fun _ => False) w w' := by
  have R1 := Lib.hid (fun W => tread_any W (str cfg1) (by decide))
  have R2 := Lib.hid (fun W => tread_any W (str [97, 32, 123, 10, 32, 98]) (by decide))
  have R3 := Lib.hid (fun W => tread_any W (str [97, 59, 10, 125]) (by decide))
  have HG := Lib.hid (fun W (k : Keeps (fun _ => False) w W) => Ety.keeps hg k id)
  clear hg
  go_enter Tryd.func4, Tryd.ntmps4
  go_wp2_with fail
  refine (R1.out _).mono ?_
  rintro e w1 ⟨hok, -, k1⟩
  obtain ⟨v1, rfl, S, h1, hS⟩ := hok _ tree13
  obtain ⟨b, off, c, b1, off1, c1, b2, off2, c2, rfl, hmem⟩ := mem13 h1
  have H1 := Lib.hid (fun W (k : Keeps (fun _ => False) w1 W) => (⟨Nds.fit h1 k, fun i hi => Nat.lt_of_lt_of_le (hS i hi).2 k.size⟩ : NdsAt W S _ T13 ∧ ∀ i, S i → i < W.heap.size))
  have HM := Lib.hid hmem
  have HK1 := Lib.hid k1
  clear hok h1 hS hmem k1
  go_wp2_with fail
  refine (R2.out _).mono ?_
  rintro e w2 ⟨-, hbad, k2⟩
  obtain ⟨v2, s2, rfl, hc2⟩ := hbad _ _ tree13b
  have HC2 := Lib.hid (fun W (k : Keeps (fun _ => False) w2 W) => hc2.keeps k (fun _ _ _ => id))
  have HK2 := Lib.hid k2
  clear hbad k2 hc2
  go_wp2_with fail
  refine (R3.out _).mono ?_
  rintro e w3 ⟨-, hbad, k3⟩
  obtain ⟨v3, s3, rfl, hc3⟩ := hbad _ _ tree13c
  have HC3 := Lib.hid (fun W (k : Keeps (fun _ => False) w3 W) => hc3.keeps k (fun _ _ _ => id))
  have HK13 := Lib.hid (HK2.out.trans k3)
  have HK3 := Lib.hid (HK1.out.trans HK13.out)
  have HK23 := Lib.hid k3
  obtain ⟨m1, m2, m3, m4, m5, m6, m7⟩ := HM.out w3 HK13.out
  clear hbad k3 hc3
  go_wp2_with fail
  refine (tprint_any w3 S _ T13 (H1.out w3 HK13.out).1 (H1.out w3 HK13.out).2 (by simp [fineL, fineN, T13, str_size]) (Nat.le_trans cost13 (by omega))).mono ?_
  rintro e w4 ⟨rfl, k4⟩
  rw [put13_eq]
  rw [show printV (some put13) = .tuple #[.string ⟨#[99, 111, 110, 115, 111, 108, 101, 32, 97, 32, 123, 10, 32, 32, 108, 105, 110, 101, 115, 32, 50, 48, 59, 10, 32, 32, 105, 110, 105, 116, 32, 34, 120, 32, 121, 34, 59, 10, 125, 10, 98, 114, 101, 97, 107, 32, 49, 32, 122, 59, 10]⟩, .int .i64 0] from rfl]
  have HK4 := Lib.hid k4
  obtain ⟨m1, m2, m3, m4, m5, m6, m7⟩ := HM.out w4 (HK13.out.trans HK4.out)
  clear k4
  go_wp2_with fail
  have c4 := HC2.out w4 (HK23.out.trans HK4.out)
  refine (of_chain w4 _ 3 v2 c4 (HG.out _ (HK3.out.trans HK4.out))).mono ?_
  rintro e w5 ⟨rfl, k5⟩
  have HK5 := Lib.hid (HK4.out.trans k5)
  clear k5 c4
  go_wp2_with fail
  refine (line_chain w5 _ 3 v2 (HC2.out w5 (HK23.out.trans HK5.out)) (HG.out _ (HK3.out.trans HK5.out))).mono ?_
  rintro e w6 ⟨rfl, k6⟩
  rw [show lineOf [((2 : Int), s2)] = 2 from rfl]
  have HK6 := Lib.hid (HK5.out.trans k6)
  clear k6
  go_wp2_with fail
  refine (line_chain w6 _ 3 v3 (HC3.out w6 HK6.out) (HG.out _ (HK3.out.trans HK6.out))).mono ?_
  rintro e w7 ⟨rfl, k7⟩
  rw [show lineOf [((2 : Int), s3)] = 2 from rfl]
  have HK7 := Lib.hid (HK6.out.trans k7)
  clear k7
  go_wp2_with fail
  have hn := H1.out w7 (HK13.out.trans HK7.out)
  refine (tcount_any _ T13 w7 S _ (Nat.le_refl _) (by rw [count13]; omega) hn.1).mono ?_
  rintro e w8 ⟨rfl, k8⟩
  rw [count13]
  have HK8 := Lib.hid (HK7.out.trans k8)
  clear k8 hn
  go_wp2_with fail
  have hn := H1.out w8 (HK13.out.trans HK8.out)
  refine (tsame_any _ T13 T13 w8 S S _ _ (Nat.le_refl _) (by simp [sameL, sameN, T13]) hn.1 hn.1).mono ?_
  rintro e w9 ⟨rfl, k9⟩
  have HK9 := Lib.hid (HK3.out.trans (HK8.out.trans k9))
  clear k9 hn
  go_wp2_with fail
  go_ret
  exact ⟨rfl, HK9.out⟩
end Go.Proofs.YtemjbblehiaobaaDoor
