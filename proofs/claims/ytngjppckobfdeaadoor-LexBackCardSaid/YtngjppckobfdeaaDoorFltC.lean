/-
  fault: Of, Line, Has, Text and the two Error methods: what they answer of an error, however often it was wrapped.
-/
import Derived.Test.YtngjppckobfdeaaDoorFltB
namespace Go.Proofs.YtngjppckobfdeaaDoor
open Go.RowKit

set_option maxRecDepth 100000 in
theorem of_nil (w : World) : Calls Tryd.prog 13 #[.nilIface] w fun e w' => e = .returned (.int .i64 0) ∧ Keeps (fun _ => False) w w' := by
  go_enter Tryd.func13, Tryd.ntmps13
  go_wp2
  go_ret
  exact ⟨rfl, (Keeps.refl _ _).alloc _⟩

set_option maxRecDepth 100000 in
theorem of_chain (w : World) (l : List (Int × ByteArray)) (c : Int) (v : Value) (h : Chain w l c v) (hg : Ety w) :
    Calls Tryd.prog 13 #[v] w fun e w' => e = .returned (.int .i64 c) ∧ Keeps (fun _ => False) w w' := by
  have hk : Keeps (fun _ => False) w (w.alloc (.cells #[.int .i64 0] tKind)) := (Keeps.refl _ w).alloc _
  have HA := Lib.hid (as_kind c 0 w.heap.size l v _ (h.keeps hk (fun _ _ _ => id)) (hg.keeps hk id) (Blk.new w tKind #[.int .i64 0]))
  obtain ⟨ty, x, rfl⟩ := h.form
  clear h hg
  go_enter Tryd.func13, Tryd.ntmps13
  go_wp2_with (go_at_call 39; go_must (refine HA.out.mono ?_; rintro e w2 ⟨rfl, k2, hb⟩; have hcell := hb.cell 0; simp only [List.getElem?_toArray, List.getElem?_cons_zero] at hcell))
  go_ret
  exact ⟨rfl, hk.and_ k2 (fun i hi e => by omega)⟩

theorem line_nil (w : World) : Calls Tryd.prog 14 #[.nilIface] w fun e w' => e = .returned (.int .i64 0) ∧ Keeps (fun _ => False) w w' := by
  have hf : ∀ w, Calls Tryd.prog 40 #[.nilIface, .func (.func 41) #[] #[]] w fun e w' => e = .returned (.pointer none) ∧ w' = w := by
    intro w
    go_enter Tryd.func40, Tryd.ntmps40
    go_wp2_with fail
    refine wp_loop_rounds 1 ?_
    rw [rounds_succ]
    go_wp2
    go_ret
    exact ⟨rfl, rfl⟩
  have HF := Lib.hid hf
  clear hf
  go_enter Tryd.func14, Tryd.ntmps14
  go_wp2_with (go_at_call 40; go_must (refine (HF.out _).mono ?_; rintro e w2 ⟨rfl, rfl⟩))
  go_ret
  exact ⟨rfl, Keeps.refl _ _⟩

set_option maxRecDepth 100000 in
theorem line_chain (w : World) (l : List (Int × ByteArray)) (c : Int) (v : Value) (h : Chain w l c v) (hg : Ety w) :
    Calls Tryd.prog 14 #[v] w fun e w' => e = .returned (.int .i64 (lineOf l)) ∧ Keeps (fun _ => False) w w' := by
  have HF := Lib.hid (find_placed w _ l c v h.b (Nat.le_refl _) hg)
  obtain ⟨ty, x, rfl⟩ := h.form
  clear h hg
  go_enter Tryd.func14, Tryd.ntmps14
  go_wp2_with fail
  refine HF.out.mono ?_
  rintro e w2 ⟨k2, ⟨rfl, hl⟩ | ⟨a, n, s, u, rfl, hb, hn, hp⟩⟩
  · have HL := Lib.hid hl
    clear hl
    go_wp2_with fail
    go_ret
    exact ⟨by rw [HL.out]; rfl, k2⟩
  · have HL := Lib.hid hn
    obtain ⟨c0, c1, c2⟩ := hb.cells3
    clear hn hb
    go_wp2_with fail
    go_ret
    exact ⟨by rw [← HL.out]; rfl, k2⟩

theorem has_chain (w : World) (l : List (Int × ByteArray)) (c d : Int) (v : Value) (h : Chain w l c v) :
    Calls Tryd.prog 23 #[v, .int .i64 d] w fun e w' => e = .returned (.bool (decide (d ≠ 0 ∧ c = d))) ∧ Keeps (fun _ => False) w w' := by
  have hi := is_ok c d l v w h
  obtain ⟨ty, x, rfl⟩ := h.form
  clear h
  by_cases hd : d = 0
  · subst hd
    clear hi
    go_enter Tryd.func23, Tryd.ntmps23
    go_wp2
    go_ret
    exact ⟨rfl, Keeps.refl _ _⟩
  · have h1 : (d != 0) = true := by simpa using hd
    have h2 : decide (d ≠ 0 ∧ c = d) = decide (c = d) := by simp [hd]
    have H2 := Lib.hid h2
    have HI := Lib.hid hi
    clear h2 hi
    go_enter Tryd.func23, Tryd.ntmps23
    go_wp2_with (go_at_call 48; go_must (refine HI.out.mono ?_; rintro e w2 ⟨rfl, rfl⟩))
    go_ret
    exact ⟨by rw [H2.out]; rfl, Keeps.refl _ _⟩
set_option maxRecDepth 100000 in
theorem has_nil (w : World) (d : Int) :
    Calls Tryd.prog 23 #[.nilIface, .int .i64 d] w fun e w' => e = .returned (.bool false) ∧ Keeps (fun _ => False) w w' := by
  by_cases hd : d = 0
  · subst hd
    go_enter Tryd.func23, Tryd.ntmps23
    go_wp2
    go_ret
    exact ⟨rfl, Keeps.refl _ _⟩
  · have h1 : (d != 0) = true := by simpa using hd
    have hi : ∀ w, Calls Tryd.prog 48 #[.nilIface, .iface tKind (.int .i64 d)] w fun e w' => e = .returned (.bool false) ∧ w' = w := by
      intro w
      have hq := fun w => run_eql_iface_nil_left (P := Tryd.prog) (w := w) tKind (.int .i64 d) Tryd.underlying25
      go_enter Tryd.func48, Tryd.ntmps48
      go_wp2
      go_ret
      exact ⟨rfl, rfl⟩
    have HI := Lib.hid hi
    clear hi
    go_enter Tryd.func23, Tryd.ntmps23
    go_wp2_with (go_at_call 48; go_must (refine (HI.out _).mono ?_; rintro e w2 ⟨rfl, rfl⟩))
    go_ret
    exact ⟨rfl, Keeps.refl _ _⟩

/-- what an error says -/
def saysOf (l : List (Int × ByteArray)) (c : Int) : List ByteArray := (l.map fun x => tellsOf x.1 x.2).flatten ++ (if (wordOf c).data.toList = [] then [] else [wordOf c])
def textOf (l : List (Int × ByteArray)) (c : Int) : List UInt8 := Lib.join ((saysOf l c).map (·.data.toList)) [58, 32]

theorem text_nil (w : World) : Calls Tryd.prog 22 #[.nilIface] w fun e w' => e = .returned (.string ⟨#[]⟩) ∧ Keeps (fun _ => False) w w' := by
  go_enter Tryd.func22, Tryd.ntmps22
  go_wp2
  go_ret
  exact ⟨rfl, Keeps.refl _ _⟩

set_option maxRecDepth 100000 in
set_option maxHeartbeats 1000000 in
theorem text_chain (w : World) (l : List (Int × ByteArray)) (c : Int) (v : Value) (h : Chain w l c v) (hg : Ety w) (hc : -9223372036854775808 ≤ c ∧ c ≤ 9223372036854775807)
    (hl : ∀ x ∈ l, -9223372036854775808 ≤ x.1 ∧ x.1 ≤ 9223372036854775807) (hn : l.length ≤ 1000000) (ht : (textOf l c).length ≤ 140737488355328) :
    Calls Tryd.prog 22 #[v] w fun e w' => e = .returned (.string (str (textOf l c))) ∧ Keeps (fun _ => False) w w' := by
  have hk : Keeps (fun _ => False) w (w.alloc (.cells #[.slice none 0 0] 88)) := (Keeps.refl _ w).alloc _
  have hT : IsTeller (w.alloc (.cells #[.slice none 0 0] 88)) w.heap.size [] := ⟨_, Blk.new _ _ _, OwnL.none_ _ _ _⟩
  have HF := Lib.hid (find_tell _ w.heap.size w.heap.size [] l c v (h.b.keeps hk (fun _ _ => id)) (Nat.le_refl _) (ety_lt hg) (hg.keeps hk id) hT hl (by simp; omega))
  have HH := Lib.hid h
  have HG := Lib.hid hg
  have HS : Hid (((l.map fun x => tellsOf x.1 x.2).flatten) ++ (if (wordOf c).data.toList = [] then [] else [wordOf c]) = saysOf l c) := Lib.hid rfl
  have HN : Hid (((l.map fun x => tellsOf x.1 x.2).flatten).length ≤ 2 * l.length) := Lib.hid (tells_len l)
  have HT : Hid ((textOf l c).length ≤ 140737488355328) := Lib.hid ht
  have he := ety_lt hg
  obtain ⟨c1, c2⟩ := hc
  obtain ⟨ty, x, rfl⟩ := h.form
  clear h hg hT hl ht
  go_enter Tryd.func22, Tryd.ntmps22
  go_wp2_with fail
  refine HF.out.mono ?_
  rintro e w2 ⟨rfl, hT2, k2⟩
  have kk2 : Keeps (fun _ => False) w w2 := hk.and_ k2 (fun i hi h => by omega)
  have HT2 : Hid (IsTeller w2 w.heap.size ((l.map fun x => tellsOf x.1 x.2).flatten)) := Lib.hid hT2
  clear hT2
  go_wp2_with fail
  refine (of_chain w2 l c _ (Chain.keeps HH kk2 (fun _ _ _ => id)) (Ety.keeps HG kk2 id)).mono ?_
  rintro e w3 ⟨rfl, k3⟩
  go_wp2_with fail
  refine (word_any w3 c c1 c2).mono ?_
  rintro e w4 ⟨rfl, k4⟩
  have HT4 := Lib.hid (IsTeller.keeps HT2 (k3.trans k4) (fun _ _ => id))
  go_wp2_with fail
  refine (add_any w4 w.heap.size _ (wordOf c) HT4 (by have := HN.out; omega)).mono ?_
  rintro e w5 ⟨rfl, hT5, k5⟩
  rw [HS.out] at hT5
  obtain ⟨v5, hb5, hO5⟩ := hT5
  have hlen5 : (saysOf l c).length ≤ 2 * l.length + 1 := by
    rw [← HS.out, List.length_append]; have := HN.out; split <;> simp only [List.length_nil, List.length_cons] <;> omega
  have kk5 : Keeps (fun _ => False) w w5 := (kk2.trans (k3.trans k4)).and_ k5.up (fun i hi h => by omega)
  have sh := hO5.shape
  rw [strVs_len] at sh
  obtain ⟨ad, cap, rfl, hc1, hc2, hc3, hc4⟩ := sh
  have hcell := hb5.cell 0
  simp only [List.getElem?_toArray, List.getElem?_cons_zero] at hcell
  rcases Nat.eq_zero_or_pos (saysOf l c).length with h0 | h0
  · have hnil : saysOf l c = [] := List.eq_nil_of_length_eq_zero h0
    rw [h0] at hcell
    have HZ := Lib.hid hnil
    clear hc4 hb5 hO5 hnil h0
    go_wp2_with fail
    refine (Tryd.strings_Join_none _ _ _ _).mono ?_
    rintro e w6 ⟨rfl, rfl⟩
    go_wp2_with fail
    go_ret
    exact ⟨by unfold textOf; rw [HZ.out]; rfl, kk5⟩
  · obtain ⟨g, rfl, hg1, hg2⟩ := hc3 h0
    have hcs : ∀ (j : Nat) s, (saysOf l c)[j]? = some s → w5.cell? ⟨g, 0 + j, none⟩ = some (.string s) := fun j s hj => by
      rw [Nat.zero_add]; exact (hc4 g rfl j (.string s) (by simp [strVs, hj])).1
    have HJ := Lib.hid (Tryd.strings_Join g 0 cap (saysOf l c) ⟨#[58, 32]⟩ w5 hcs hg2 (by omega) hc1 HT.out)
    clear hc4 hb5 hO5 hcs
    go_wp2_with fail
    refine HJ.out.mono ?_
    rintro e w6 ⟨rfl, k6⟩
    go_wp2_with fail
    go_ret
    exact ⟨rfl, kk5.trans (Keeps.of_below k6)⟩

theorem kind_error (w : World) (c : Int) (h1 : -9223372036854775808 ≤ c) (h2 : c ≤ 9223372036854775807) :
    Calls Tryd.prog 34 #[.int .i64 c] w fun e w' => e = .returned (.string (wordOf c)) ∧ Keeps (fun _ => False) w w' := by
  go_enter Tryd.func34, Tryd.ntmps34
  go_wp2_with (go_at_call 28; go_must (refine (word_any _ c h1 h2).mono ?_; rintro e w2 ⟨rfl, k2⟩))
  go_ret
  exact ⟨rfl, k2⟩
theorem fault_error (w : World) (a : Nat) (l : List (Int × ByteArray)) (c : Int) (h : Chain w l c (.iface tPFault (.pointer (some ⟨a, 0, none⟩)))) (hg : Ety w) (hc : -9223372036854775808 ≤ c ∧ c ≤ 9223372036854775807)
    (hl : ∀ x ∈ l, -9223372036854775808 ≤ x.1 ∧ x.1 ≤ 9223372036854775807) (hn : l.length ≤ 1000000) (ht : (textOf l c).length ≤ 140737488355328) :
    Calls Tryd.prog 33 #[.pointer (some ⟨a, 0, none⟩)] w fun e w' => e = .returned (.string (str (textOf l c))) ∧ Keeps (fun _ => False) w w' := by
  have HT := Lib.hid (text_chain w l c _ h hg hc hl hn ht)
  clear h hg hl ht
  go_enter Tryd.func33, Tryd.ntmps33
  go_wp2_with (go_at_call 22; go_must (refine HT.out.mono ?_; rintro e w2 ⟨rfl, k2⟩))
  go_ret
  exact ⟨rfl, k2⟩
end Go.Proofs.YtngjppckobfdeaaDoor
