/-
  The example of the faults' statements ('works') comes out true.
-/
import Derived.Test.YtngjppckobfdeaaDoorFltC
namespace Go.Proofs.YtngjppckobfdeaaDoor
open Go.RowKit

theorem dec_7 : dec 7 = [55] := by rw [dec_pos (by decide), decN_small (by decide)]; rfl
theorem dec_99 : dec 99 = [57, 57] := by rw [dec_pos (by decide), decN_big (by decide), decN_small (by decide)]; rfl
theorem word_12 : wordOf 12 = ⟨#[100, 101, 118, 105, 99, 101]⟩ := by unfold wordOf; rw [if_neg (by decide)]; rfl
theorem word_99 : wordOf 99 = ⟨#[99, 111, 100, 101, 32, 57, 57]⟩ := by rw [wordOf_out (by decide), dec_99]; rfl
theorem text_b : textOf [(0, ⟨#[99, 111, 110, 115, 111, 108, 101, 32, 97]⟩), (7, ⟨#[108, 105, 110, 101, 115]⟩)] 2 = [99, 111, 110, 115, 111, 108, 101, 32, 97, 58, 32, 108, 105, 110, 101, 32, 55, 58, 32, 108, 105, 110, 101, 115, 58, 32, 114, 97, 110, 103, 101] := by
  have h2 : wordOf 2 = ⟨#[114, 97, 110, 103, 101]⟩ := by unfold wordOf; rw [if_neg (by decide)]; rfl
  unfold textOf saysOf
  rw [h2]
  simp [tellsOf, dec_7, str, Lib.join, List.intercalate]

theorem text_b2 : str (textOf [(0, ⟨#[99, 111, 110, 115, 111, 108, 101, 32, 97]⟩), (7, ⟨#[108, 105, 110, 101, 115]⟩)] 2) = ⟨#[99, 111, 110, 115, 111, 108, 101, 32, 97, 58, 32, 108, 105, 110, 101, 32, 55, 58, 32, 108, 105, 110, 101, 115, 58, 32, 114, 97, 110, 103, 101]⟩ := by rw [text_b]; rfl

set_option maxRecDepth 100000 in
set_option maxHeartbeats 2000000 in
theorem works09 (w : World) (hg : Ety w) : Calls Tryd.prog 20 #[] w fun e w' => e = .returned (.bool true) ∧ Keeps (fun _ => False) w w' := by
  have HG := Lib.hid hg
  clear hg
  go_enter Tryd.func20, Tryd.ntmps20
  go_wp2_with fail
  refine (new_flt _ 2 7 _ (by decide)).mono ?_
  rintro e w1 ⟨rfl, hw1⟩
  have k1 : Keeps (fun _ => False) w w1 := by rw [hw1]; exact (Keeps.refl _ _).alloc _
  have hb1 : Blk w1 w.heap.size tFault #[.int .i64 7, .string ⟨#[108, 105, 110, 101, 115]⟩, .iface tKind (.int .i64 2)] := by rw [hw1]; exact Blk.new _ _ _
  have ch1 := Chain.layer (w := w1) w.heap.size 7 ⟨#[108, 105, 110, 101, 115]⟩ _ [] 2 hb1 (.kind 2)
  clear hw1
  go_wp2_with fail
  refine (wrap_flt _ _ _ 0 _).mono ?_
  rintro e w2 ⟨rfl, hw2⟩
  have k2 : Keeps (fun _ => False) w1 w2 := by rw [hw2]; exact (Keeps.refl _ _).alloc _
  have hb2 : Blk w2 w1.heap.size tFault #[.int .i64 0, .string ⟨#[99, 111, 110, 115, 111, 108, 101, 32, 97]⟩, .iface tPFault (.pointer (some ⟨w.heap.size, 0, none⟩))] := by rw [hw2]; exact Blk.new _ _ _
  have ch2 := Chain.layer (w := w2) w1.heap.size 0 ⟨#[99, 111, 110, 115, 111, 108, 101, 32, 97]⟩ _ _ 2 hb2 (ch1.keeps k2 (fun _ _ _ => id))
  clear hw2
  go_wp2_with fail
  refine (wrap_flt _ _ _ 9 _).mono ?_
  rintro e w3 ⟨rfl, hw3⟩
  have k3 : Keeps (fun _ => False) w2 w3 := by rw [hw3]; exact (Keeps.refl _ _).alloc _
  have hb3 : Blk w3 w2.heap.size tFault #[.int .i64 9, .string ⟨#[]⟩, .iface tPFault (.pointer (some ⟨w1.heap.size, 0, none⟩))] := by rw [hw3]; exact Blk.new _ _ _
  have ch3 := Chain.layer (w := w3) w2.heap.size 9 ⟨#[]⟩ _ _ 2 hb3 (ch2.keeps k3 (fun _ _ _ => id))
  have cb := ch2.keeps k3 (fun _ _ _ => id)
  have kk3 := (k1.trans k2).trans k3
  have HC := Lib.hid ch3
  have HB := Lib.hid cb
  clear hw3 hb1 hb2 hb3 ch1 ch2 ch3 cb k1 k2 k3
  go_wp2_with fail
  refine (of_nil _).mono ?_
  rintro e w4 ⟨rfl, k4⟩
  go_wp2_with fail
  refine (new_nil _ 1 _).mono ?_
  rintro e w4' ⟨rfl, rfl⟩
  go_wp2_with fail
  refine (wrap_nil _ 1 _).mono ?_
  rintro e w4' ⟨rfl, rfl⟩
  go_wp2_with fail
  refine (of_chain _ _ 2 _ (Chain.keeps HC k4 (fun _ _ _ => id)) (Ety.keeps HG (kk3.trans k4) id)).mono ?_
  rintro e w5 ⟨rfl, k5⟩
  have q5 := k4.trans k5
  go_wp2_with fail
  refine (line_chain _ _ 2 _ (Chain.keeps HC q5 (fun _ _ _ => id)) (Ety.keeps HG (kk3.trans q5) id)).mono ?_
  rintro e w6 ⟨rfl, k6⟩
  rw [show lineOf [(9, (⟨#[]⟩ : ByteArray)), (0, ⟨#[99, 111, 110, 115, 111, 108, 101, 32, 97]⟩), (7, ⟨#[108, 105, 110, 101, 115]⟩)] = 9 from rfl]
  have q6 := q5.trans k6
  go_wp2_with fail
  refine (line_chain _ _ 2 _ (Chain.keeps HB q6 (fun _ _ _ => id)) (Ety.keeps HG (kk3.trans q6) id)).mono ?_
  rintro e w7 ⟨rfl, k7⟩
  rw [show lineOf [(0, (⟨#[99, 111, 110, 115, 111, 108, 101, 32, 97]⟩ : ByteArray)), (7, ⟨#[108, 105, 110, 101, 115]⟩)] = 7 from rfl]
  have q7 := q6.trans k7
  go_wp2_with fail
  refine (has_chain _ _ 2 2 _ (Chain.keeps HC q7 (fun _ _ _ => id))).mono ?_
  rintro e w8 ⟨rfl, k8⟩
  have q8 := q7.trans k8
  go_wp2_with fail
  refine (has_chain _ _ 2 3 _ (Chain.keeps HC q8 (fun _ _ _ => id))).mono ?_
  rintro e w9 ⟨rfl, k9⟩
  have q9 := q8.trans k9
  go_wp2_with fail
  refine (text_chain _ _ 2 _ (Chain.keeps HB q9 (fun _ _ _ => id)) (Ety.keeps HG (kk3.trans q9) id) (by decide) (by decide) (by decide) (by rw [text_b]; decide)).mono ?_
  rintro e w10 ⟨rfl, k10⟩
  rw [text_b2]
  have q10 := q9.trans k10
  go_wp2_with fail
  refine (text_nil _).mono ?_
  rintro e w11 ⟨rfl, k11⟩
  go_wp2_with fail
  refine (word_any _ 12 (by decide) (by decide)).mono ?_
  rintro e w12 ⟨rfl, k12⟩
  rw [word_12]
  go_wp2_with fail
  refine (word_any _ 99 (by decide) (by decide)).mono ?_
  rintro e w13 ⟨rfl, k13⟩
  rw [word_99]
  go_wp2_with fail
  go_ret
  exact ⟨rfl, (((kk3.trans q10).trans k11).trans k12).trans k13⟩

theorem wf_i64 {n : Int} (h : (Lit.int .i64 n).wf = true) : -9223372036854775808 ≤ n ∧ n ≤ 9223372036854775807 := by
  simpa [Lit.wf, IntKind.min, IntKind.max, IntKind.signed, IntKind.bits] using h
theorem faultWords_walk (w : World) (c : Int) (hw : (Lit.int .i64 c).wf = true) (hg : Ety w) :
    Calls Tryd.prog 7 #[.int .i64 c] w fun e w' => e = .returned (.bool true) ∧ Keeps (fun _ => False) w w' := by
  have HG := Lib.hid hg
  obtain ⟨h1, h2⟩ := wf_i64 hw
  clear hg hw
  go_enter Tryd.func7, Tryd.ntmps7
  go_wp2_with fail
  refine (word_any w c h1 h2).mono ?_
  rintro e w2 ⟨rfl, k2⟩
  go_wp2_with fail
  refine (rword_any w2 c h1 h2).mono ?_
  rintro e w3 ⟨rfl, k3⟩
  go_wp2_with fail
  refine (works09 w3 (Ety.keeps HG (k2.trans k3) id)).mono ?_
  rintro e w4 ⟨rfl, k4⟩
  go_wp2_with fail
  go_ret
  exact ⟨rfl, (k2.trans k3).trans k4⟩
end Go.Proofs.YtngjppckobfdeaaDoor
