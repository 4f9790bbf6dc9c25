/-
  FaultWraps returns true, whatever its arguments: the walk.
-/
import Derived.Test.YtngjppckobfdeaaDoorWorks09
import Derived.Test.YtngjppckobfdeaaDoorTextP
namespace Go.Proofs.YtngjppckobfdeaaDoor
open Go.RowKit

theorem tells_sum (n : Int) (s : ByteArray) (h1 : -9223372036854775808 ≤ n) (h2 : n ≤ 9223372036854775807) : (((tellsOf n s).map (·.data.toList)).map List.length).sum ≤ 25 + s.size := by
  have hl := dec_le h1 h2
  have hs : s.data.toList.length = s.size := by simp
  unfold tellsOf
  rw [List.map_append, List.map_append, List.sum_append]
  have h3 : ((((if 0 < n then [str ([108, 105, 110, 101, 32] ++ dec n)] else []) : List ByteArray).map (·.data.toList)).map List.length).sum ≤ 25 := by
    split
    · simp only [List.map_cons, List.map_nil, str_list, List.length_append, List.sum_cons, List.sum_nil, List.length_cons, List.length_nil]; omega
    · simp
  have h4 : ((((if s.data.toList = [] then [] else [s]) : List ByteArray).map (·.data.toList)).map List.length).sum ≤ s.size := by
    split
    · simp
    · simp only [List.map_cons, List.map_nil, List.sum_cons, List.sum_nil]; omega
  omega
theorem textOf_len (l : List (Int × ByteArray)) (c : Int) (M : Nat) (hc : -9223372036854775808 ≤ c ∧ c ≤ 9223372036854775807) (hl : ∀ x ∈ l, (-9223372036854775808 ≤ x.1 ∧ x.1 ≤ 9223372036854775807) ∧ x.2.size ≤ M) :
    (textOf l c).length ≤ (30 + M) * l.length + 30 := by
  have h1 := join_len ((saysOf l c).map (·.data.toList)) [58, 32]
  have hw : (wordOf c).data.toList.length ≤ 25 := by have := wordOf_len c hc.1 hc.2; simpa using this
  have hsum : (((saysOf l c).map (·.data.toList)).map List.length).sum + 2 * (saysOf l c).length ≤ (30 + M) * l.length + 30 := by
    unfold saysOf
    rw [List.map_append, List.map_append, List.sum_append, List.length_append]
    have h3 : ((((if (wordOf c).data.toList = [] then [] else [wordOf c]) : List ByteArray).map (·.data.toList)).map List.length).sum + 2 * ((if (wordOf c).data.toList = [] then [] else [wordOf c]) : List ByteArray).length ≤ 30 := by
      split
      · simp
      · simp only [List.map_cons, List.map_nil, List.sum_cons, List.sum_nil, List.length_cons, List.length_nil]; omega
    have h4 : ((((l.map fun x => tellsOf x.1 x.2).flatten).map (·.data.toList)).map List.length).sum + 2 * ((l.map fun x => tellsOf x.1 x.2).flatten).length ≤ (30 + M) * l.length := by
      clear h1 h3
      induction l with
      | nil => simp
      | cons x l ih =>
        have hx := hl x (by simp)
        have h5 := tells_sum x.1 x.2 hx.1.1 hx.1.2
        have h6 : (tellsOf x.1 x.2).length ≤ 2 := by unfold tellsOf; split <;> split <;> simp
        have h7 := ih (fun y hy => hl y (by simp [hy]))
        simp only [List.map_cons, List.flatten_cons, List.map_append, List.sum_append, List.length_append, List.length_cons] at h7 ⊢
        rw [Nat.mul_add (30 + M) l.length 1]
        have h8 := hx.2
        simp only [List.map_map] at *
        omega
    omega
  have h2 : (textOf l c).length = (Lib.join ((saysOf l c).map (·.data.toList)) [58, 32]).length := rfl
  rw [h2]
  simp only [List.length_cons, List.length_nil, List.length_map] at h1 hsum ⊢
  omega
/-- wrapped once more, the text stands at the end -/
theorem text_ends (n : Int) (s : ByteArray) (l : List (Int × ByteArray)) (c : Int) : ∃ p, textOf ((n, s) :: l) c = p ++ textOf l c := by
  unfold textOf saysOf
  rw [List.map_cons, List.flatten_cons, List.append_assoc, List.map_append]
  exact join_suffix _ _ _

set_option maxRecDepth 100000 in
set_option maxHeartbeats 4000000 in
theorem faultWraps_walk (w : World) (c line : Int) (what more : ByteArray) (at_ : Int) (hc : (Lit.int .i64 c).wf = true) (hline : (Lit.int .i64 line).wf = true) (_h1 : what.size ≤ maxLen) (_h2 : more.size ≤ maxLen) (hat : (Lit.int .i64 at_).wf = true) (hg : Ety w) :
    Calls Tryd.prog 8 #[.int .i64 c, .int .i64 line, .string what, .string more, .int .i64 at_] w fun e w' => e = .returned (.bool true) ∧ Keeps (fun _ => False) w w' := by
  have hc := wf_i64 hc
  have hline := wf_i64 hline
  have hat := wf_i64 hat
  have HG := Lib.hid hg
  clear hg _h1 _h2
  by_cases hbad : 100 < what.size ∨ 100 < more.size ∨ c = 0
  · by_cases b1 : 100 < what.size
    · go_enter Tryd.func8, Tryd.ntmps8
      go_wp2_with fail
      refine (works09 w HG).mono ?_
      rintro e w4 ⟨rfl, k4⟩
      go_wp2_with fail
      go_ret
      exact ⟨rfl, k4⟩
    · by_cases b2 : 100 < more.size
      · go_enter Tryd.func8, Tryd.ntmps8
        go_wp2_with fail
        refine (works09 w HG).mono ?_
        rintro e w4 ⟨rfl, k4⟩
        go_wp2_with fail
        go_ret
        exact ⟨rfl, k4⟩
      · obtain rfl : c = 0 := by omega
        go_enter Tryd.func8, Tryd.ntmps8
        go_wp2_with fail
        refine (works09 w HG).mono ?_
        rintro e w4 ⟨rfl, k4⟩
        go_wp2_with fail
        go_ret
        exact ⟨rfl, k4⟩
  · have b1 : what.size ≤ 100 := by omega
    have b2 : more.size ≤ 100 := by omega
    have b3 : c ≠ 0 := by omega
    have b4 : (c == 0) = false := beq_eq_false_iff_ne.2 b3
    clear hbad
    go_enter Tryd.func8, Tryd.ntmps8
    go_wp2_with fail
    refine (new_flt _ c line _ b3).mono ?_
    rintro e w1 ⟨rfl, hw1⟩
    have k1 : Keeps (fun _ => False) w w1 := by rw [hw1]; exact (Keeps.refl _ _).alloc _
    have hb1 : Blk w1 w.heap.size tFault #[.int .i64 line, .string what, .iface tKind (.int .i64 c)] := by rw [hw1]; exact Blk.new _ _ _
    have ch1 := Chain.layer (w := w1) w.heap.size line what _ [] c hb1 (.kind c)
    clear hw1
    go_wp2_with fail
    refine (wrap_flt _ _ _ at_ _).mono ?_
    rintro e w2 ⟨rfl, hw2⟩
    have k2 : Keeps (fun _ => False) w1 w2 := by rw [hw2]; exact (Keeps.refl _ _).alloc _
    have hb2 : Blk w2 w1.heap.size tFault #[.int .i64 at_, .string more, .iface tPFault (.pointer (some ⟨w.heap.size, 0, none⟩))] := by rw [hw2]; exact Blk.new _ _ _
    have cb := Chain.layer (w := w2) w1.heap.size at_ more _ _ c hb2 (ch1.keeps k2 (fun _ _ _ => id))
    have ca := ch1.keeps k2 (fun _ _ _ => id)
    have kk2 := k1.trans k2
    have HA := Lib.hid ca
    have HB := Lib.hid cb
    clear hw2 hb1 hb2 ch1 ca cb k1 k2
    have hla : ∀ x ∈ [(line, what)], -9223372036854775808 ≤ x.1 ∧ x.1 ≤ 9223372036854775807 := by simp; exact hline
    have hlb : ∀ x ∈ [(at_, more), (line, what)], -9223372036854775808 ≤ x.1 ∧ x.1 ≤ 9223372036854775807 := by simp; exact ⟨hat, hline⟩
    have tla := textOf_len [(line, what)] c 100 hc (by simp; exact ⟨hline, b1⟩)
    have tlb := textOf_len [(at_, more), (line, what)] c 100 hc (by simp; exact ⟨⟨hat, b2⟩, hline, b1⟩)
    obtain ⟨pre, hpre⟩ := text_ends at_ more [(line, what)] c
    obtain ⟨ta, hta⟩ : ∃ ta, ta = textOf [(line, what)] c := ⟨_, rfl⟩
    obtain ⟨tb, htb⟩ : ∃ tb, tb = textOf [(at_, more), (line, what)] c := ⟨_, rfl⟩
    rw [← hta, ← htb] at hpre
    have TA : ∀ w' , Keeps (fun _ => False) w2 w' → Calls Tryd.prog 22 #[.iface tPFault (.pointer (some ⟨w.heap.size, 0, none⟩))] w' fun e w'' => e = .returned (.string (str ta)) ∧ Keeps (fun _ => False) w' w'' := fun w' k => by
      rw [hta]
      exact text_chain w' _ c _ (Chain.keeps HA k (fun _ _ _ => id)) (Ety.keeps HG (kk2.trans k) id) hc hla (by simp) (by simp at tla; omega)
    have TB : ∀ w' , Keeps (fun _ => False) w2 w' → Calls Tryd.prog 22 #[.iface tPFault (.pointer (some ⟨w1.heap.size, 0, none⟩))] w' fun e w'' => e = .returned (.string (str tb)) ∧ Keeps (fun _ => False) w' w'' := fun w' k => by
      rw [htb]
      exact text_chain w' _ c _ (Chain.keeps HB k (fun _ _ _ => id)) (Ety.keeps HG (kk2.trans k) id) hc hlb (by simp) (by simp at tlb; omega)
    have HTA := Lib.hid TA
    have HTB := Lib.hid TB
    have HP := Lib.hid hpre
    have hsa : (str ta).size ≤ 300 := by rw [str_size, hta]; simp at tla; omega
    have hsb : (str tb).size ≤ 300 := by rw [str_size, htb]; simp at tlb; omega
    have hsab : (str ta).size ≤ (str tb).size := by rw [str_size, str_size, hpre, List.length_append]; omega
    have HLC : Hid (∀ x ∈ [(line, what), (line, what)], -9223372036854775808 ≤ x.1 ∧ x.1 ≤ 9223372036854775807) := Lib.hid (by simp; exact hline)
    have HTC : Hid ((textOf [(line, what), (line, what)] c).length ≤ 140737488355328) := Lib.hid (by
      have := textOf_len [(line, what), (line, what)] c 100 hc (by simp; exact ⟨hline, b1⟩)
      simp at this; omega)
    have HSX : Hid ((str tb).extract ((str tb).size - (str ta).size) (str tb).size = str ta) := Lib.hid (by
      apply ba_ext
      rw [ext_list, str_size, str_size, str_list, str_list, hpre, List.length_append, Nat.add_sub_cancel]
      simp)
    clear TA TB hpre tla tlb hla hlb hta htb
    go_wp2_with fail
    refine (HTA.out _ (Keeps.refl _ _)).mono ?_
    rintro e w3 ⟨rfl, k3⟩
    go_wp2_with fail
    refine (HTB.out _ k3).mono ?_
    rintro e w4 ⟨rfl, k4⟩
    have q4 := k3.trans k4
    by_cases ha : 0 < at_
    · have hlb : lineOf [(at_, more), (line, what)] = at_ := by rw [lineOf, if_pos ha]
      have HLB := Lib.hid hlb
      clear hlb
      go_wp2_with fail
      have hu1 := unwrap_ok w4.heap.size line what (.iface tPFault (.pointer (some ⟨w.heap.size, 0, none⟩))) (w4.alloc (.cells #[.int .i64 line, .string what, .iface tPFault (.pointer (some ⟨w.heap.size, 0, none⟩))] tFault)) (Blk.new _ _ _)
      have hbf := Blk.new w4 tFault #[.int .i64 line, .string what, .iface tPFault (.pointer (some ⟨w.heap.size, 0, none⟩))]
      have q5 : Keeps (fun _ => False) w2 (w4.alloc (.cells #[.int .i64 line, .string what, .iface tPFault (.pointer (some ⟨w.heap.size, 0, none⟩))] tFault)) := q4.alloc _
      obtain ⟨w5, hw5⟩ : ∃ w5, w5 = w4.alloc (.cells #[.int .i64 line, .string what, .iface tPFault (.pointer (some ⟨w.heap.size, 0, none⟩))] tFault) := ⟨_, rfl⟩
      rw [← hw5] at hu1 hbf q5 ⊢
      have HU := Lib.hid hu1
      have HBF := Lib.hid hbf
      clear hw5 hu1 hbf
      refine HU.out.mono ?_
      rintro e w6 ⟨rfl, rfl⟩
      go_wp2_with fail
      refine HU.out.mono ?_
      rintro e w6 ⟨rfl, rfl⟩
      go_wp2_with fail
      refine (of_chain _ _ c _ (Chain.keeps HA q5 (fun _ _ _ => id)) (Ety.keeps HG (kk2.trans q5) id)).mono ?_
      rintro e w7 ⟨rfl, k7⟩
      have q7 := q5.trans k7
      go_wp2_with fail
      refine (fault_error _ _ [(line, what), (line, what)] c (.layer _ _ _ _ _ _ (Blk.keeps HBF k7 id) (Chain.keeps HA q7 (fun _ _ _ => id))) (Ety.keeps HG (kk2.trans q7) id) hc HLC.out (by simp) HTC.out).mono ?_
      rintro e w8 ⟨rfl, k8⟩
      have q8 := q7.trans k8
      go_wp2_with fail
      refine (wrap_flt _ _ _ line _).mono ?_
      rintro e w9 ⟨rfl, hw9⟩
      have k9 : Keeps (fun _ => False) w8 w9 := by rw [hw9]; exact (Keeps.refl _ _).alloc _
      have hb9 : Blk w9 w8.heap.size tFault #[.int .i64 line, .string what, .iface tPFault (.pointer (some ⟨w.heap.size, 0, none⟩))] := by rw [hw9]; exact Blk.new _ _ _
      have q9 := q8.trans k9
      have HB9 := Lib.hid hb9
      clear hw9 hb9
      go_wp2_with fail
      refine (text_chain _ [(line, what), (line, what)] c _ (.layer _ _ _ _ _ _ HB9 (Chain.keeps HA q9 (fun _ _ _ => id))) (Ety.keeps HG (kk2.trans q9) id) hc HLC.out (by simp) HTC.out).mono ?_
      rintro e w10 ⟨rfl, k10⟩
      have q10 := q9.trans k10
      go_wp2_with fail
      refine (kind_error _ c hc.1 hc.2).mono ?_
      rintro e w11 ⟨rfl, k11⟩
      go_wp2_with fail
      refine (rword_any _ c hc.1 hc.2).mono ?_
      rintro e w12 ⟨rfl, k12⟩
      have q12 := (q10.trans k11).trans k12
      go_wp2_with fail
      refine (of_chain _ _ c _ (Chain.keeps HB q12 (fun _ _ _ => id)) (Ety.keeps HG (kk2.trans q12) id)).mono ?_
      rintro e w13 ⟨rfl, k13⟩
      have q13 := q12.trans k13
      go_wp2_with fail
      refine (of_chain _ _ c _ (Chain.keeps HA q13 (fun _ _ _ => id)) (Ety.keeps HG (kk2.trans q13) id)).mono ?_
      rintro e w14 ⟨rfl, k14⟩
      have q14 := q13.trans k14
      go_wp2_with fail
      refine (of_chain _ _ c _ (Chain.keeps HA q14 (fun _ _ _ => id)) (Ety.keeps HG (kk2.trans q14) id)).mono ?_
      rintro e w15 ⟨rfl, k15⟩
      have q15 := q14.trans k15
      go_wp2_with fail
      refine (has_chain _ _ c c _ (Chain.keeps HB q15 (fun _ _ _ => id))).mono ?_
      rintro e w16 ⟨rfl, k16⟩
      have q16 := q15.trans k16
      rw [show decide (c ≠ 0 ∧ c = c) = true from by simp [b3]]
      go_wp2_with fail
      refine (line_chain _ _ c _ (Chain.keeps HB q16 (fun _ _ _ => id)) (Ety.keeps HG (kk2.trans q16) id)).mono ?_
      rintro e w17 ⟨rfl, k17⟩
      have q17 := q16.trans k17
      rw [HLB.out]
      have hsx := HSX.out
      go_wp2_with fail
      refine (works09 _ (Ety.keeps HG (kk2.trans q17) id)).mono ?_
      rintro e w18 ⟨rfl, k18⟩
      go_wp2_with fail
      go_ret
      exact ⟨rfl, (kk2.trans q17).trans k18⟩
    · have hlb : lineOf [(at_, more), (line, what)] = max 0 line := by rw [lineOf, if_neg ha, lineOf]; unfold lineOf; omega
      have HLB := Lib.hid hlb
      have ha2 : at_ ≤ 0 := by omega
      clear hlb ha
      go_wp2_with fail
      have hu1 := unwrap_ok w4.heap.size line what (.iface tPFault (.pointer (some ⟨w.heap.size, 0, none⟩))) (w4.alloc (.cells #[.int .i64 line, .string what, .iface tPFault (.pointer (some ⟨w.heap.size, 0, none⟩))] tFault)) (Blk.new _ _ _)
      have hbf := Blk.new w4 tFault #[.int .i64 line, .string what, .iface tPFault (.pointer (some ⟨w.heap.size, 0, none⟩))]
      have q5 : Keeps (fun _ => False) w2 (w4.alloc (.cells #[.int .i64 line, .string what, .iface tPFault (.pointer (some ⟨w.heap.size, 0, none⟩))] tFault)) := q4.alloc _
      obtain ⟨w5, hw5⟩ : ∃ w5, w5 = w4.alloc (.cells #[.int .i64 line, .string what, .iface tPFault (.pointer (some ⟨w.heap.size, 0, none⟩))] tFault) := ⟨_, rfl⟩
      rw [← hw5] at hu1 hbf q5 ⊢
      have HU := Lib.hid hu1
      have HBF := Lib.hid hbf
      clear hw5 hu1 hbf
      refine HU.out.mono ?_
      rintro e w6 ⟨rfl, rfl⟩
      go_wp2_with fail
      refine HU.out.mono ?_
      rintro e w6 ⟨rfl, rfl⟩
      go_wp2_with fail
      refine (of_chain _ _ c _ (Chain.keeps HA q5 (fun _ _ _ => id)) (Ety.keeps HG (kk2.trans q5) id)).mono ?_
      rintro e w7 ⟨rfl, k7⟩
      have q7 := q5.trans k7
      go_wp2_with fail
      refine (fault_error _ _ [(line, what), (line, what)] c (.layer _ _ _ _ _ _ (Blk.keeps HBF k7 id) (Chain.keeps HA q7 (fun _ _ _ => id))) (Ety.keeps HG (kk2.trans q7) id) hc HLC.out (by simp) HTC.out).mono ?_
      rintro e w8 ⟨rfl, k8⟩
      have q8 := q7.trans k8
      go_wp2_with fail
      refine (wrap_flt _ _ _ line _).mono ?_
      rintro e w9 ⟨rfl, hw9⟩
      have k9 : Keeps (fun _ => False) w8 w9 := by rw [hw9]; exact (Keeps.refl _ _).alloc _
      have hb9 : Blk w9 w8.heap.size tFault #[.int .i64 line, .string what, .iface tPFault (.pointer (some ⟨w.heap.size, 0, none⟩))] := by rw [hw9]; exact Blk.new _ _ _
      have q9 := q8.trans k9
      have HB9 := Lib.hid hb9
      clear hw9 hb9
      go_wp2_with fail
      refine (text_chain _ [(line, what), (line, what)] c _ (.layer _ _ _ _ _ _ HB9 (Chain.keeps HA q9 (fun _ _ _ => id))) (Ety.keeps HG (kk2.trans q9) id) hc HLC.out (by simp) HTC.out).mono ?_
      rintro e w10 ⟨rfl, k10⟩
      have q10 := q9.trans k10
      go_wp2_with fail
      refine (kind_error _ c hc.1 hc.2).mono ?_
      rintro e w11 ⟨rfl, k11⟩
      go_wp2_with fail
      refine (rword_any _ c hc.1 hc.2).mono ?_
      rintro e w12 ⟨rfl, k12⟩
      have q12 := (q10.trans k11).trans k12
      go_wp2_with fail
      refine (of_chain _ _ c _ (Chain.keeps HB q12 (fun _ _ _ => id)) (Ety.keeps HG (kk2.trans q12) id)).mono ?_
      rintro e w13 ⟨rfl, k13⟩
      have q13 := q12.trans k13
      go_wp2_with fail
      refine (of_chain _ _ c _ (Chain.keeps HA q13 (fun _ _ _ => id)) (Ety.keeps HG (kk2.trans q13) id)).mono ?_
      rintro e w14 ⟨rfl, k14⟩
      have q14 := q13.trans k14
      go_wp2_with fail
      refine (of_chain _ _ c _ (Chain.keeps HA q14 (fun _ _ _ => id)) (Ety.keeps HG (kk2.trans q14) id)).mono ?_
      rintro e w15 ⟨rfl, k15⟩
      have q15 := q14.trans k15
      go_wp2_with fail
      refine (has_chain _ _ c c _ (Chain.keeps HB q15 (fun _ _ _ => id))).mono ?_
      rintro e w16 ⟨rfl, k16⟩
      have q16 := q15.trans k16
      rw [show decide (c ≠ 0 ∧ c = c) = true from by simp [b3]]
      go_wp2_with fail
      refine (line_chain _ _ c _ (Chain.keeps HB q16 (fun _ _ _ => id)) (Ety.keeps HG (kk2.trans q16) id)).mono ?_
      rintro e w17 ⟨rfl, k17⟩
      have q17 := q16.trans k17
      rw [HLB.out]
      have hsx := HSX.out
      go_wp2_with fail
      refine (works09 _ (Ety.keeps HG (kk2.trans q17) id)).mono ?_
      rintro e w18 ⟨rfl, k18⟩
      go_wp2_with fail
      go_ret
      exact ⟨rfl, (kk2.trans q17).trans k18⟩
end Go.Proofs.YtngjppckobfdeaaDoor
