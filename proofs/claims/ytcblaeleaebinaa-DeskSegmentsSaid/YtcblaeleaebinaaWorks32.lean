/-
  works of law32: true, and only new blocks.
-/
import Derived.Test.YtcblaeleaebinaaBench
namespace Go.Proofs.Ytcblaeleaebinaa
open Go.RowKit

theorem str_app (a : ByteArray) (l : List UInt8) : (a ++ str l).data.toList = a.data.toList ++ l := by simp [str]

theorem bemit_all {w0 w : World} {p g b m d B : Nat} {A : List UInt8} {most : Nat} {torn : Bool} {bg : List UInt8} {FL : Flow} (n : Int) (h : Bench w0 w p g b m d B A most torn bg FL) (hn : -9223372036854775808 ≤ n ∧ n ≤ 9223372036854775807) (hA : A.length ≤ m) :
    Calls Try.prog 13 #[.pointer (some ⟨d, 0, none⟩), .int .i64 n] w fun e w' => ∃ bg', e = .returned (.string (str ((FL.take n.toNat).map Prod.fst))) ∧ Bench w0 w' p g b m d B A most torn bg' (FL.drop n.toNat) ∧ SentP FL bg (min n.toNat FL.length) bg' := by
  refine (bemit n h hn).mono ?_
  rintro e w' ⟨k, torn', bg', rfl, h', hk, hs, ⟨rfl, rfl⟩ | ⟨_, ht⟩⟩
  · have e1 : FL.take (min n.toNat FL.length) = FL.take n.toNat := by
      rcases Nat.le_total n.toNat FL.length with h | h
      · rw [Nat.min_eq_left h]
      · rw [Nat.min_eq_right h, List.take_of_length_le h, List.take_of_length_le (Nat.le_refl _)]
    have e2 : FL.drop (min n.toNat FL.length) = FL.drop n.toNat := by
      rcases Nat.le_total n.toNat FL.length with h | h
      · rw [Nat.min_eq_left h]
      · rw [Nat.min_eq_right h, List.drop_eq_nil_of_le h, List.drop_eq_nil_of_le (Nat.le_refl _)]
    rw [e2] at h'
    rw [e1]
    exact ⟨bg', rfl, h', hs⟩
  · exact absurd hA ht

set_option maxRecDepth 100000 in
set_option maxHeartbeats 2000000 in
theorem works32 (w : World) : Calls Try.prog 10 #[] w fun e w' => e = .returned (.bool true) ∧ Keeps (fun _ => False) w w' := by
  have fin : ∀ w' : World, Keeps (fun i => w.heap.size ≤ i) w w' → Keeps (fun _ => False) w w' := fun w' k => k.mono fun i hi e => by omega
  have FIN := Lib.hid fin
  clear fin
  go_enter Try.func10, Try.ntmps10
  go_wp2_with fail
  refine (pnew_ok w 100 (by decide) (by decide)).mono ?_
  rintro e w1 ⟨p, g, b, rfl, l1, l2, l3, k1, hp⟩
  go_wp2_with fail
  refine (bnew (w0 := w) (most := 12) k1.none_ hp ⟨l1, l2, l3⟩ (by decide) (by decide) (by decide)).mono ?_
  rintro e w2 ⟨rfl, h2⟩
  go_wp2_with fail
  refine (dnew_bad w2 0 (by decide)).mono ?_
  rintro e w3 ⟨rfl, n3, rfl⟩
  have h3 := h2.same ((Keeps.refl (fun _ => False) w2).drewN n3)
  obtain ⟨d, hd⟩ : ∃ d, d = w1.heap.size := ⟨_, rfl⟩
  rw [← hd] at h3 ⊢
  clear h2 hd hp l1 l2 l3 k1
  go_wp2_with fail
  refine (badd _ h3 (by decide)).mono ?_
  rintro e w4 ⟨rfl, h4⟩
  rw [show ([] : List UInt8) ++ (⟨#[97, 98, 255, 99, 100]⟩ : ByteArray).data.toList = [97, 98, 255, 99, 100] from rfl] at h4
  go_wp2_with fail
  refine (bshow 1 4 h4 (by decide) (by decide) (by decide) (by decide)).mono ?_
  rintro e w5 ⟨rfl, h5⟩
  rw [show ([] : Flow) ++ dblF ((([97, 98, 255, 99, 100] : List UInt8).drop 1).take (4 - 1)) = [(98, true), (255, false), (255, true), (99, true)] from by decide] at h5
  go_wp2_with fail
  refine (bshow_no 3 9 h5 (by decide)).mono ?_
  rintro e w6 ⟨rfl, h6⟩
  go_wp2_with fail
  refine (btell ⟨#[104, 105]⟩ h6 (by decide) (by decide)).mono ?_
  rintro e w7 ⟨rfl, h7⟩
  rw [show ([(98, true), (255, false), (255, true), (99, true)] : Flow) ++ markP (toldP (⟨#[104, 105]⟩ : ByteArray).data.toList) = [(98, true), (255, false), (255, true), (99, true), (255, false), (1, false), (104, false), (105, false), (255, false), (2, true)] from by decide] at h7
  go_wp2_with fail
  refine (bshow 4 5 h7 (by decide) (by decide) (by decide) (by decide)).mono ?_
  rintro e w8 ⟨rfl, h8⟩
  rw [show ([(98, true), (255, false), (255, true), (99, true), (255, false), (1, false), (104, false), (105, false), (255, false), (2, true)] : Flow) ++ dblF ((([97, 98, 255, 99, 100] : List UInt8).drop 4).take (5 - 4)) = [(98, true), (255, false), (255, true), (99, true), (255, false), (1, false), (104, false), (105, false), (255, false), (2, true), (100, true)] from by decide] at h8
  go_wp2_with fail
  refine (bwaits h8).mono ?_
  rintro e w9 ⟨rfl, n9, rfl⟩
  have h9 := h8.same ((Keeps.refl (fun _ => False) w8).drewN n9)
  go_wp2_with fail
  refine (bemit_all 2 h9 (by decide) (by decide)).mono ?_
  rintro e w10 ⟨bg10, he, h10, -⟩
  rw [show str (((([(98, true), (255, false), (255, true), (99, true), (255, false), (1, false), (104, false), (105, false), (255, false), (2, true), (100, true)] : Flow)).take (2 : Int).toNat).map Prod.fst) = (⟨#[98, 255]⟩ : ByteArray) from rfl] at he
  rw [show ((([(98, true), (255, false), (255, true), (99, true), (255, false), (1, false), (104, false), (105, false), (255, false), (2, true), (100, true)] : Flow)).drop (2 : Int).toNat) = [(255, true), (99, true), (255, false), (1, false), (104, false), (105, false), (255, false), (2, true), (100, true)] from rfl] at h10
  subst he
  go_wp2_with fail
  refine (bemit_all 100 h10 (by decide) (by decide)).mono ?_
  rintro e w11 ⟨bg11, he, h11, -⟩
  rw [show str (((([(255, true), (99, true), (255, false), (1, false), (104, false), (105, false), (255, false), (2, true), (100, true)] : Flow)).take (100 : Int).toNat).map Prod.fst) = (⟨#[255, 99, 255, 1, 104, 105, 255, 2, 100]⟩ : ByteArray) from rfl] at he
  rw [show ((([(255, true), (99, true), (255, false), (1, false), (104, false), (105, false), (255, false), (2, true), (100, true)] : Flow)).drop (100 : Int).toNat) = [] from rfl] at h11
  subst he
  go_wp2_with (first
    | (go_at_call 15; go_must (refine (blate h11).mono ?_; rintro e w12 ⟨rfl, n12, rfl⟩; have h12 := h11.same ((Keeps.refl (fun _ => False) w11).drewN n12)))
    | (go_at_call 22; go_must (refine (bwaits h12).mono ?_; rintro e w13 ⟨rfl, n13, rfl⟩))
    | (go_at_call 13; go_must (refine (bemit_all 5 (h11.same ((Keeps.refl (fun _ => False) w11).drewN _)) (by decide) (by decide)).mono ?_; rintro e w14 ⟨bg14, he, h14, -⟩; rw [show str (((([] : Flow)).take (5 : Int).toNat).map Prod.fst) = (⟨#[]⟩ : ByteArray) from rfl] at he; subst he)))
  go_ret
  exact ⟨rfl, FIN.out _ h14.kk⟩
end Go.Proofs.Ytcblaeleaebinaa
