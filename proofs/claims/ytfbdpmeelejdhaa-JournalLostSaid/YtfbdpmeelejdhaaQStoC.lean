/-
  store: New, made, begin, there, Fail, Read, Size, by walk.
-/
import Derived.Test.YtfbdpmeelejdhaaQStoB
namespace Go.Proofs.Ytfbdpmeelejdhaa
open Go.RowKit Go.Maps

/-- an error of a code; none, if it is 0 -/
def ErrV (w : World) (c : Int) (v : Value) : Prop := (c = 0 ∧ v = .nilIface) ∨ (c ≠ 0 ∧ ∃ l, Chain w l c v)
section
variable {w w' : World} {F S : Nat → Prop} {s M bad : Nat} {most : Int} {L : List SRep}
theorem ErrV.ok : ErrV w 0 .nilIface := .inl ⟨rfl, rfl⟩
theorem ErrV.keeps {c : Int} {v : Value} (h : ErrV w c v) (k : Keeps S w w') (hS : ∀ i cs, Blk w i 80 cs → ¬ S i) : ErrV w' c v := by
  rcases h with h | ⟨hc, l, hl⟩
  · exact .inl h
  · refine .inr ⟨hc, l, ?_⟩
    clear hc
    induction hl with
    | kind c => exact .kind c
    | layer a n t v l c hb _ ih => exact .layer a n t v l c (hb.keeps k (hS a _ hb)) ih
theorem ErrV.keeps0 {c : Int} {v : Value} (h : ErrV w c v) (k : Keeps (fun _ => False) w w') : ErrV w' c v := h.keeps k (fun _ _ _ => id)
/-- a made error -/
theorem new_err (w : World) (c : Int) (nm : ByteArray) (hc : c ≠ 0) : Calls Try.prog 20 #[.int .i64 c, .int .i64 0, .string nm] w fun e w' =>
    (∃ a, e = .returned (.iface 77 (.pointer (some ⟨a, 0, none⟩))) ∧ Chain w' [(0, nm)] c (.iface 77 (.pointer (some ⟨a, 0, none⟩)))) ∧ Keeps (fun _ => False) w w' := by
  refine (new_flt w c 0 nm hc).mono ?_
  rintro e w' ⟨rfl, rfl⟩
  exact ⟨⟨_, rfl, .layer _ _ _ _ _ _ (Blk.new _ _ _) (.kind c)⟩, (Keeps.refl _ _).alloc _⟩

set_option maxRecDepth 100000 in
theorem made_any (h : StoreAt w F s most bad M L) : Calls Try.prog 27 #[.pointer (some ⟨s, 0, none⟩)] w fun e w' => e = .returned (.bool true) ∧ w' = w := by
  obtain ⟨h0, h1, h2⟩ := h.top.cells3
  have hq : (binOp .neq 56 (.map (some M)) (.map none)).run Try.prog w = .ok (.bool true) w := by kernel_rfl
  clear h
  go_enter Try.func27, Try.ntmps27
  go_wp2_with fail
  go_ret
  exact ⟨rfl, rfl⟩
set_option maxRecDepth 100000 in
theorem made_nil (w : World) : Calls Try.prog 27 #[.pointer none] w fun e w' => e = .returned (.bool false) ∧ w' = w := by
  go_enter Try.func27, Try.ntmps27
  go_wp2_with fail
  go_ret
  exact ⟨rfl, rfl⟩

/-- what is asked ahead of a call that writes -/
def beginC (bad : Nat) (nm : ByteArray) : Int × Nat := if namedP nm then (if 0 < bad then (12, bad - 1) else (0, bad)) else (1, bad)
set_option maxRecDepth 100000 in
theorem begin_any (h : StoreAt w F s most bad M L) (nm : ByteArray) (hb : bad ≤ 9223372036854775807) :
    Calls Try.prog 34 #[.pointer (some ⟨s, 0, none⟩), .string nm] w fun e w' => (∃ v, e = .returned v ∧ ErrV w' (beginC bad nm).1 v) ∧ StoreAt w' F s most (beginC bad nm).2 M L ∧ Keeps (fun i => i = s) w w' := by
  have HM := Lib.hid (made_any h)
  have HN := Lib.hid (named_any w nm)
  have H := Lib.hid h
  obtain ⟨h0, h1, h2⟩ := h.top.cells3
  have f2 := h.top.frozen 2
  clear h
  by_cases hn : namedP nm = true
  · by_cases h0b : 0 < bad
    · have hc : beginC bad nm = (12, bad - 1) := by unfold beginC; rw [if_pos hn, if_pos h0b]
      rw [hc]
      have HNN := Lib.hid hn
      clear hn hc
      go_enter Try.func34, Try.ntmps34
      go_wp2_with (go_at_call 27; refine HM.out.mono ?_; rintro e w1 ⟨rfl, rfl⟩)
      refine HN.out.mono ?_
      rintro e w1 ⟨rfl, rfl⟩
      rw [HNN.out]
      go_wp2_with fail
      have hsb := H.out.setBad (bad - 1) ((bad : Int) - 1) (by omega)
      refine (new_err _ 12 nm (by decide)).mono ?_
      rintro e w2 ⟨⟨a, rfl, hch⟩, k2⟩
      have HCH := Lib.hid hch
      have HSB := Lib.hid hsb
      have HK2 := Lib.hid k2
      clear hch k2 hsb
      go_wp2_with fail
      go_ret
      exact ⟨⟨_, rfl, .inr ⟨by decide, _, HCH.out⟩⟩, HSB.out.1.keeps HK2.out (fun _ _ => id), HSB.out.2.trans (Keeps.none_ HK2.out)⟩
    · have hc : beginC bad nm = (0, bad) := by unfold beginC; rw [if_pos hn, if_neg h0b]
      rw [hc]
      have h0c : (bad : Int) ≤ 0 := by omega
      have HNN := Lib.hid hn
      clear hn hc h0b
      go_enter Try.func34, Try.ntmps34
      go_wp2_with (go_at_call 27; refine HM.out.mono ?_; rintro e w1 ⟨rfl, rfl⟩)
      refine HN.out.mono ?_
      rintro e w1 ⟨rfl, rfl⟩
      rw [HNN.out]
      go_wp2_with fail
      go_ret
      exact ⟨⟨_, rfl, ErrV.ok⟩, H.out, Keeps.refl _ _⟩
  · have hc : beginC bad nm = (1, bad) := by unfold beginC; rw [if_neg hn]
    rw [hc]
    have HNN := Lib.hid (show namedP nm = false by simpa using hn)
    clear hn hc
    go_enter Try.func34, Try.ntmps34
    go_wp2_with (go_at_call 27; refine HM.out.mono ?_; rintro e w1 ⟨rfl, rfl⟩)
    refine HN.out.mono ?_
    rintro e w1 ⟨rfl, rfl⟩
    rw [HNN.out]
    go_wp2_with fail
    refine (new_err _ 1 nm (by decide)).mono ?_
    rintro e w2 ⟨⟨a, rfl, hch⟩, k2⟩
    have HCH := Lib.hid hch
    have HK2 := Lib.hid k2
    clear hch k2
    go_wp2_with fail
    go_ret
    exact ⟨⟨_, rfl, .inr ⟨by decide, _, HCH.out⟩⟩, H.out.keeps HK2.out (fun _ _ => id), Keeps.none_ HK2.out⟩
set_option maxRecDepth 100000 in
theorem begin_nil (w : World) (nm : ByteArray) : Calls Try.prog 34 #[.pointer none, .string nm] w fun e w' => (∃ v, e = .returned v ∧ ErrV w' 14 v) ∧ Keeps (fun _ => False) w w' := by
  go_enter Try.func34, Try.ntmps34
  go_wp2_with (go_at_call 27; refine (made_nil _).mono ?_; rintro e w1 ⟨rfl, rfl⟩)
  refine (new_err _ 14 _ (by decide)).mono ?_
  rintro e w2 ⟨⟨a, rfl, hch⟩, k2⟩
  have HCH := Lib.hid hch
  have HK2 := Lib.hid k2
  clear hch k2
  go_wp2_with fail
  go_ret
  exact ⟨⟨_, rfl, .inr ⟨by decide, _, HCH.out⟩⟩, HK2.out⟩

set_option maxRecDepth 100000 in
/-- a file that must be there -/
theorem there_any (h : StoreAt w F s most bad M L) (nm : ByteArray) (hn : nm.size ≤ maxLen) :
    Calls Try.prog 35 #[.pointer (some ⟨s, 0, none⟩), .string nm] w fun e w' =>
      ((∃ r, getG SRep.nm nm L = some r ∧ e = .returned (.tuple #[.pointer (some ⟨r.p, 0, none⟩), .nilIface])) ∨
       (getG SRep.nm nm L = none ∧ ∃ a, e = .returned (.tuple #[.pointer none, .iface 77 (.pointer (some ⟨a, 0, none⟩))]) ∧ Chain w' [(0, nm)] 7 (.iface 77 (.pointer (some ⟨a, 0, none⟩))))) ∧ Keeps (fun _ => False) w w' := by
  have hl := h.look nm hn
  obtain ⟨h0, h1, h2⟩ := h.top.cells3
  clear h
  cases hg : getG SRep.nm nm L with
  | none =>
    rw [hg] at hl
    simp only [Option.map_none, Option.isSome_none] at hl
    clear hg
    go_enter Try.func35, Try.ntmps35
    go_wp2_with fail
    refine (new_err _ 7 nm (by decide)).mono ?_
    rintro e w2 ⟨⟨a, rfl, hch⟩, k2⟩
    have HCH := Lib.hid hch
    have HK2 := Lib.hid k2
    clear hch k2
    go_wp2_with fail
    go_ret2
    exact ⟨.inr ⟨by first | rfl | trivial, a, rfl, HCH.out⟩, HK2.out⟩
  | some r =>
    rw [hg] at hl
    simp only [Option.map_some, Option.isSome_some] at hl
    clear hg
    go_enter Try.func35, Try.ntmps35
    go_wp2_with fail
    go_ret2
    exact ⟨.inl ⟨r, by first | rfl | trivial, rfl⟩, Keeps.refl _ _⟩

set_option maxRecDepth 100000 in
/-- the next calls fail -/
theorem fail_any (h : StoreAt w F s most bad M L) (n : Int) :
    Calls Try.prog 11 #[.pointer (some ⟨s, 0, none⟩), .int .i64 n] w fun e w' => e = .returned (.tuple #[]) ∧ StoreAt w' F s most n.toNat M L ∧ Keeps (fun i => i = s) w w' := by
  have HM := Lib.hid (made_any h)
  have H := Lib.hid h
  obtain ⟨h0, h1, h2⟩ := h.top.cells3
  have f2 := h.top.frozen 2
  clear h
  have hsb := H.out.setBad n.toNat (max 0 n) (by omega)
  have HSB := Lib.hid hsb
  clear hsb
  by_cases hn : 0 < n
  · go_enter Try.func11, Try.ntmps11
    go_wp2_with (go_at_call 27; refine HM.out.mono ?_; rintro e w1 ⟨rfl, rfl⟩)
    exact bodyPost_end (results_none rfl _ _ _) rfl ⟨rfl, HSB.out⟩
  · go_enter Try.func11, Try.ntmps11
    go_wp2_with (go_at_call 27; refine HM.out.mono ?_; rintro e w1 ⟨rfl, rfl⟩)
    exact bodyPost_end (results_none rfl _ _ _) rfl ⟨rfl, HSB.out⟩
set_option maxRecDepth 100000 in
theorem fail_nil (w : World) (n : Int) : Calls Try.prog 11 #[.pointer none, .int .i64 n] w fun e w' => e = .returned (.tuple #[]) ∧ w' = w := by
  go_enter Try.func11, Try.ntmps11
  go_wp2_with (go_at_call 27; refine (made_nil _).mono ?_; rintro e w1 ⟨rfl, rfl⟩)
  exact bodyPost_end (results_none rfl _ _ _) rfl ⟨rfl, rfl⟩

set_option maxRecDepth 100000 in
/-- a file's bytes -/
theorem read_any (h : StoreAt w F s most bad M L) (nm : ByteArray) (hn : nm.size ≤ maxLen) :
    Calls Try.prog 18 #[.pointer (some ⟨s, 0, none⟩), .string nm] w fun e w' => e = .returned (match getG SRep.nm nm L with | some r => .tuple #[.string r.f.data, .bool true] | none => .tuple #[.string ⟨#[]⟩, .bool false]) ∧ w' = w := by
  have HM := Lib.hid (made_any h)
  have hl := h.look nm hn
  obtain ⟨h0, h1, h2⟩ := h.top.cells3
  cases hg : getG SRep.nm nm L with
  | none =>
    rw [hg] at hl
    simp only [Option.map_none, Option.isSome_none] at hl
    clear hg h
    go_enter Try.func18, Try.ntmps18
    go_wp2_with (go_at_call 27; refine HM.out.mono ?_; rintro e w1 ⟨rfl, rfl⟩)
    go_ret2
    exact ⟨rfl, rfl⟩
  | some r =>
    rw [hg] at hl
    simp only [Option.map_some, Option.isSome_some] at hl
    have hf := h.each r (getG_some hg).1
    obtain ⟨p, v, hr⟩ : ∃ p v, r = ⟨r.f, p, v⟩ := ⟨_, _, rfl⟩
    have c0 := hf.blk.cell 0
    simp only [List.getElem?_toArray, List.getElem?_cons_zero] at c0
    have hcv := run_string_q (P := Try.prog) w 72 9 5 r.v r.f.data.data.toList Try.underlying72 Try.underlying5 Try.underlying9 hf.own
    have hsd : str r.f.data.data.toList = r.f.data := ba_ext (by rw [str_list])
    rw [hsd] at hcv
    clear hg h hf hr hsd
    go_enter Try.func18, Try.ntmps18
    go_wp2_with (go_at_call 27; refine HM.out.mono ?_; rintro e w1 ⟨rfl, rfl⟩)
    go_ret2
    exact ⟨rfl, rfl⟩
set_option maxRecDepth 100000 in
theorem read_nil (w : World) (nm : ByteArray) : Calls Try.prog 18 #[.pointer none, .string nm] w fun e w' => e = .returned (.tuple #[.string ⟨#[]⟩, .bool false]) ∧ w' = w := by
  go_enter Try.func18, Try.ntmps18
  go_wp2_with (go_at_call 27; refine (made_nil _).mono ?_; rintro e w1 ⟨rfl, rfl⟩)
  go_ret2
  exact ⟨rfl, rfl⟩

set_option maxRecDepth 100000 in
/-- how many bytes, and how many are sure -/
theorem size_any (h : StoreAt w F s most bad M L) (nm : ByteArray) (hn : nm.size ≤ maxLen) :
    Calls Try.prog 17 #[.pointer (some ⟨s, 0, none⟩), .string nm] w fun e w' => e = .returned (match getG SRep.nm nm L with | some r => .tuple #[.int .i64 (r.f.data.size : Nat), .int .i64 (r.f.sure : Nat)] | none => .tuple #[.int .i64 0, .int .i64 0]) ∧ Keeps (fun _ => False) w w' := by
  have HM := Lib.hid (made_any h)
  have hl := h.look nm hn
  obtain ⟨h0, h1, h2⟩ := h.top.cells3
  cases hg : getG SRep.nm nm L with
  | none =>
    rw [hg] at hl
    simp only [Option.map_none, Option.isSome_none] at hl
    clear hg h
    go_enter Try.func17, Try.ntmps17
    go_wp2_with (go_at_call 27; refine HM.out.mono ?_; rintro e w1 ⟨rfl, rfl⟩)
    go_ret2
    exact ⟨rfl, Keeps.refl _ _⟩
  | some r =>
    rw [hg] at hl
    simp only [Option.map_some, Option.isSome_some] at hl
    have hf := h.each r (getG_some hg).1
    have c0 := hf.blk.cell 0
    have c1 := hf.blk.cell 1
    simp only [List.getElem?_toArray, List.getElem?_cons_zero, List.getElem?_cons_succ] at c0 c1
    obtain ⟨a, c, hv⟩ := hf.own.sl
    rw [u8Vs_size] at hv
    rw [hv] at c0
    clear hg h hf hv
    go_enter Try.func17, Try.ntmps17
    go_wp2_with (go_at_call 27; refine HM.out.mono ?_; rintro e w1 ⟨rfl, rfl⟩)
    go_region
    all_goals (go_wp2_with fail)
    all_goals go_ret2
    all_goals (refine ⟨rfl, ?_⟩)
    all_goals (repeat (first | (with_reducible assumption) | (with_reducible exact Keeps.refl _ _) | refine Keeps.drew ?_ | refine Keeps.drewN ?_ _ | refine Keeps.setCell ?_ (by simp) _ | refine Keeps.setRow ?_ (by simp) _ | refine Keeps.alloc ?_ _))
set_option maxRecDepth 100000 in
theorem size_nil (w : World) (nm : ByteArray) : Calls Try.prog 17 #[.pointer none, .string nm] w fun e w' => e = .returned (.tuple #[.int .i64 0, .int .i64 0]) ∧ w' = w := by
  go_enter Try.func17, Try.ntmps17
  go_wp2_with (go_at_call 27; refine (made_nil _).mono ?_; rintro e w1 ⟨rfl, rfl⟩)
  go_ret2
  exact ⟨rfl, rfl⟩
end
end Go.Proofs.Ytfbdpmeelejdhaa
