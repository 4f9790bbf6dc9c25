/-
  fault: the words of codes, what is made and wrapped, and what a teller is told.
-/
import Derived.Test.YtngjppckobfdeaaDoorDigA
import Derived.Test.YtngjppckobfdeaaDoorOwn
namespace Go.Proofs.YtngjppckobfdeaaDoor
open Go.RowKit

/-- the words of codes -/
def wordsL : List ByteArray := [⟨#[]⟩, ⟨#[97, 114, 103, 117, 109, 101, 110, 116]⟩, ⟨#[114, 97, 110, 103, 101]⟩, ⟨#[102, 111, 114, 109]⟩, ⟨#[115, 117, 109]⟩, ⟨#[115, 105, 122, 101]⟩, ⟨#[102, 117, 108, 108]⟩, ⟨#[110, 111, 110, 101]⟩, ⟨#[116, 119, 105, 99, 101]⟩, ⟨#[115, 116, 97, 116, 101]⟩, ⟨#[100, 101, 110, 105, 101, 100]⟩, ⟨#[98, 117, 115, 121]⟩, ⟨#[100, 101, 118, 105, 99, 101]⟩, ⟨#[99, 117, 116]⟩, ⟨#[110, 105, 108]⟩, ⟨#[108, 105, 109, 105, 116]⟩]
/-- texts as values -/
def strVs (l : List ByteArray) : List Value := l.map Value.string
theorem strVs_len (l : List ByteArray) : (strVs l).length = l.length := by simp [strVs]
/-- a code's word -/
def wordOf (c : Int) : ByteArray := if c < 0 ∨ 16 ≤ c then str ([99, 111, 100, 101, 32] ++ dec c) else wordsL.getD c.toNat ⟨#[]⟩
theorem wordOf_out {c : Int} (h : c < 0 ∨ 16 ≤ c) : wordOf c = str ([99, 111, 100, 101, 32] ++ dec c) := by rw [wordOf, if_pos h]
theorem wordOf_in {c : Int} (h : ¬ (c < 0 ∨ 16 ≤ c)) : wordsL[c.toNat]? = some (wordOf c) := by
  have hl : wordsL.length = 16 := rfl
  rw [wordOf, if_neg h, List.getElem?_eq_getElem (by omega), List.getD_eq_getElem?_getD, List.getElem?_eq_getElem (by omega)]; rfl
theorem wordOf_len (c : Int) (h1 : -9223372036854775808 ≤ c) (h2 : c ≤ 9223372036854775807) : (wordOf c).size ≤ 25 := by
  by_cases h : c < 0 ∨ 16 ≤ c
  · rw [wordOf_out h, str_size, List.length_append]
    have := dec_le h1 h2
    simp; omega
  · have hw : ∀ s ∈ wordsL, s.size ≤ 25 := by decide
    exact hw _ (List.mem_of_getElem? (wordOf_in h))

theorem lit_get (l : List Value) (k : Nat) (h : k < l.length) (v : Value) (e : l[k]? = some v) : l[k] = v := Option.some.inj ((List.getElem?_eq_getElem h).symm.trans e)
theorem words_any (w : World) : Calls Tryd.prog 51 #[] w fun e w' => ∃ g, e = .returned (.slice (some ⟨g, 0, none⟩) 16 16) ∧ (∀ k s, wordsL[k]? = some s → w'.cell? ⟨g, k, none⟩ = some (.string s)) ∧ Keeps (fun _ => False) w w' := by
  go_enter Tryd.func51, Tryd.ntmps51
  go_wp2
  go_ret
  refine ⟨w.heap.size, rfl, fun k s hk => ?_, (Keeps.refl _ _).alloc _⟩
  have hb := Blk.new w 9 (strVs wordsL).toArray
  exact (hb.cell k).trans (by simp [strVs, hk])

set_option maxRecDepth 100000 in
theorem word_any (w : World) (c : Int) (h1 : -9223372036854775808 ≤ c) (h2 : c ≤ 9223372036854775807) :
    Calls Tryd.prog 28 #[.int .i64 c] w fun e w' => e = .returned (.string (wordOf c)) ∧ Keeps (fun _ => False) w w' := by
  by_cases h : c < 0 ∨ 16 ≤ c
  · have hd := wordOf_out h
    have HD := Lib.hid hd
    have hsz : ((str (dec c)).size : Int) ≤ 20 := by rw [str_size]; have := dec_le h1 h2; omega
    clear hd
    rcases h with h | h
    all_goals
      go_enter Tryd.func28, Tryd.ntmps28
      go_wp2_with (first
        | (go_at_call 51; refine (words_any _).mono ?_; rintro e w2 ⟨g, rfl, hcs, k2⟩; clear hcs)
        | (go_at_call 52; refine (put_any _ c h1 h2).mono ?_; rintro e w3 ⟨rfl, k3⟩))
      go_ret
      exact ⟨by rw [HD.out]; exact congrArg (fun s => Ending.returned (Value.string s)) (ba_ext (by rw [append_str', str_list, str_list])), k2.trans k3⟩
  · have hd := wordOf_in h
    have h3 : 0 ≤ c := by omega
    have h4 : c < 16 := by omega
    have HD := Lib.hid hd
    clear hd h
    go_enter Tryd.func28, Tryd.ntmps28
    go_wp2_with (go_at_call 51; refine (words_any _).mono ?_; rintro e w2 ⟨g, rfl, hcs, k2⟩; have hc := hcs _ _ HD.out; clear hcs)
    go_ret
    exact ⟨rfl, k2⟩

set_option maxRecDepth 100000 in
theorem rword_any (w : World) (c : Int) (h1 : -9223372036854775808 ≤ c) (h2 : c ≤ 9223372036854775807) :
    Calls Tryd.prog 29 #[.int .i64 c] w fun e w' => e = .returned (.string (wordOf c)) ∧ Keeps (fun _ => False) w w' := by
  by_cases h : c < 0 ∨ 16 ≤ c
  · have hd := wordOf_out h
    have HD := Lib.hid hd
    have hsz : ((str (dec c)).size : Int) ≤ 20 := by rw [str_size]; have := dec_le h1 h2; omega
    clear hd
    rcases h with h | h
    all_goals
      go_enter Tryd.func29, Tryd.ntmps29
      go_wp2_with (go_at_call 50; refine (rput_any _ _ c (Nat.le_refl _) h1 h2).mono ?_; rintro e w3 ⟨rfl, k3⟩)
      go_ret
      exact ⟨by rw [HD.out]; exact congrArg (fun s => Ending.returned (Value.string s)) (ba_ext (by rw [append_str', str_list, str_list])), ((Keeps.refl _ _).alloc _).trans k3⟩
  · have hd := wordOf_in h
    have h3 : 0 ≤ c := by omega
    have h4 : c < 16 := by omega
    have hb : (strVs wordsL)[c.toNat]? = some (.string (wordOf c)) := by simp [strVs, hd]
    have HB := Lib.hid hb
    clear hd h hb
    go_enter Tryd.func29, Tryd.ntmps29
    go_wp2
    go_ret
    exact ⟨congrArg Ending.returned (lit_get (strVs wordsL) c.toNat (by rw [strVs_len]; show c.toNat < 16; omega) _ HB.out), (Keeps.refl _ _).alloc _⟩

theorem new_nil (w : World) (n : Int) (s : ByteArray) : Calls Tryd.prog 30 #[.int .i64 0, .int .i64 n, .string s] w fun e w' => e = .returned .nilIface ∧ w' = w := by
  go_enter Tryd.func30, Tryd.ntmps30
  go_wp2
  go_ret
  exact ⟨rfl, rfl⟩
theorem new_flt (w : World) (c n : Int) (s : ByteArray) (hc : c ≠ 0) : Calls Tryd.prog 30 #[.int .i64 c, .int .i64 n, .string s] w fun e w' =>
    e = .returned (.iface 64 (.pointer (some ⟨w.heap.size, 0, none⟩))) ∧ w' = w.alloc (.cells #[.int .i64 n, .string s, .iface 69 (.int .i64 c)] 66) := by
  have h : (c == 0) = false := beq_eq_false_iff_ne.2 hc
  go_enter Tryd.func30, Tryd.ntmps30
  go_wp2
  go_ret
  exact ⟨rfl, rfl⟩
theorem wrap_nil (w : World) (n : Int) (s : ByteArray) : Calls Tryd.prog 31 #[.nilIface, .int .i64 n, .string s] w fun e w' => e = .returned .nilIface ∧ w' = w := by
  go_enter Tryd.func31, Tryd.ntmps31
  go_wp2
  go_ret
  exact ⟨rfl, rfl⟩
theorem wrap_flt (w : World) (ty : TypeId) (x : Value) (n : Int) (s : ByteArray) : Calls Tryd.prog 31 #[.iface ty x, .int .i64 n, .string s] w fun e w' =>
    e = .returned (.iface 64 (.pointer (some ⟨w.heap.size, 0, none⟩))) ∧ w' = w.alloc (.cells #[.int .i64 n, .string s, .iface ty x] 66) := by
  go_enter Tryd.func31, Tryd.ntmps31
  go_wp2
  go_ret
  exact ⟨rfl, rfl⟩
theorem placed_any (w : World) (a : Nat) (n : Int) (s : ByteArray) (v : Value) (hb : Blk w a 66 #[.int .i64 n, .string s, v]) :
    Calls Tryd.prog 41 #[.pointer (some ⟨a, 0, none⟩)] w fun e w' => e = .returned (.bool (decide (0 < n))) ∧ w' = w := by
  obtain ⟨h0, h1, h2⟩ := hb.cells3
  go_enter Tryd.func41, Tryd.ntmps41
  go_wp2
  go_ret
  exact ⟨rfl, rfl⟩

theorem OwnL.sl {w : World} {B : Nat} {e : TypeId} {v : Value} {vs : List Value} (h : OwnL w B e v vs) : ∃ a cap, v = .slice a vs.length cap := by
  obtain ⟨a, cap, hv, -⟩ := h.shape; exact ⟨a, cap, hv⟩
/-- a teller: what was said so far -/
def IsTeller (w : World) (g : Nat) (ts : List ByteArray) : Prop := ∃ v, Blk w g 88 #[v] ∧ OwnL w (g + 1) 9 v (strVs ts)

theorem IsTeller.keeps {w w' : World} {g : Nat} {ts : List ByteArray} {S : Nat → Prop} (h : IsTeller w g ts) (k : Keeps S w w') (hS : ∀ i, g ≤ i → ¬ S i) : IsTeller w' g ts := by
  obtain ⟨v, hb, hO⟩ := h
  exact ⟨v, hb.keeps k (hS g (Nat.le_refl _)), hO.keeps k (fun i hi _ => hS i (by omega))⟩

/-- what a teller's call may change: its own block, and rows of texts above it -/
def TK (g : Nat) (w w' : World) : Prop := Keeps (fun i => i = g ∨ g < i ∧ ∃ cs, Blk w i 9 cs) w w'
theorem TK.of {g : Nat} {w w' : World} (k : Keeps (fun _ => False) w w') : TK g w w' := k.none_
theorem TK.trans {g : Nat} {a b c : World} (h : TK g a b) (k : TK g b c) : TK g a c :=
  ⟨k.os.trans h.os, k.tape.trans h.tape, k.output.trans h.output, Nat.le_trans h.size k.size, fun i hi hn => by
    have hb := h.block i hi hn
    refine (k.block i (Nat.lt_of_lt_of_le hi h.size) ?_).trans hb
    rintro (rfl | ⟨h1, cs, h2⟩)
    · exact hn (.inl rfl)
    · exact hn (.inr ⟨h1, cs, hb.symm.trans h2⟩)⟩
theorem TK.up {g : Nat} {w w' : World} (h : TK g w w') : Keeps (fun i => g ≤ i) w w' := h.mono fun i _ h => by rcases h with h | ⟨h, _⟩ <;> omega
theorem Blk.typ {w : World} {i : Nat} {t t' : TypeId} {cs cs' : Array Value} (h : Blk w i t cs) (h' : Blk w i t' cs') : t = t' := by
  unfold Blk at h h'
  rw [h] at h'
  injection h' with h'
  injection h' with _ ht

theorem add_any (w : World) (g : Nat) (ts : List ByteArray) (s : ByteArray) (h : IsTeller w g ts) (hn : ts.length ≤ 17179869184) :
    Calls Tryd.prog 46 #[.pointer (some ⟨g, 0, none⟩), .string s] w fun e w' => e = .returned (.tuple #[]) ∧ IsTeller w' g (ts ++ (if s.data.toList = [] then [] else [s])) ∧ TK g w w' := by
  obtain ⟨v, hb, hO⟩ := h
  have hc := hb.cell 0
  have hf := hb.frozen 0
  simp at hc
  by_cases hs : s.data.toList = []
  · have hs2 : s = ⟨#[]⟩ := ba_ext hs
    subst hs2
    go_enter Tryd.func46, Tryd.ntmps46
    go_wp2
    refine bodyPost_end (results_none rfl _ _ _) rfl ⟨rfl, ⟨v, hb, by simpa using hO⟩, TK.of (Keeps.refl _ _)⟩
  · have hs2 : s.toList.isEmpty = false := by
      rw [ByteArray.toList_eq]
      cases hh : s.data.toList with
      | nil => exact absurd hh hs
      | cons x y => rfl
    rw [if_neg hs]
    go_enter Tryd.func46, Tryd.ntmps46
    go_wp2_with (with_reducible show wpList _ _ _ (⟨some 13, _, _, _, _, _⟩ :: _) _ _; go_must (refine wpList_append_onet rfl (.tmp 10) (.tmp 12) 86 rfl (g + 1) 9 (.string ⟨#[]⟩) 16 Tryd.underlying86 (by kernel_rfl) rfl (by omega) v (strVs ts) rfl (hO.keeps ((Keeps.refl (fun _ => False) _).alloc _) (fun _ _ _ => id)) ⟨w.heap.size, 0, none⟩ 1 (.string s) rfl ((Blk.new _ _ _).cell 0) rfl (by simp [strVs]; omega) (by have := hb.lt; simp; omega) ?_; intro v7 w7 O7 k7; obtain ⟨ad7, cap7, rfl⟩ := O7.sl; have hb7 := (hb.alloc (.cells #[.string s] 9)).keeps k7 (fun h => by omega); have hc7 := hb7.cell 0; have hf7 := hb7.frozen 0; simp only [List.getElem?_toArray, List.getElem?_cons_zero] at hc7))
    refine bodyPost_end (results_none rfl _ _ _) rfl ⟨rfl, ⟨_, hb7.set_ 0 _, ?_⟩, ?_⟩
    · have := O7.keeps ((Keeps.refl (fun i => i = g) w7).setCell (p := ⟨g, 0, none⟩) (fun _ => rfl) (.slice ad7 (strVs ts ++ [Value.string s]).length cap7)) (fun i hi _ => by omega)
      simpa [strVs] using this
    · refine (TK.trans (TK.of ((Keeps.refl _ w).alloc _)) (k7.mono fun i _ h => .inr h)).trans ?_
      exact Keeps.setCell (p := ⟨g, 0, none⟩) (Keeps.refl _ _) (fun _ => .inl rfl) _

/-- what a fault says by itself -/
def tellsOf (n : Int) (s : ByteArray) : List ByteArray := (if 0 < n then [str ([108, 105, 110, 101, 32] ++ dec n)] else []) ++ (if s.data.toList = [] then [] else [s])

set_option maxRecDepth 100000 in
set_option maxHeartbeats 1000000 in
theorem tell_any (w : World) (g a : Nat) (ts : List ByteArray) (n : Int) (s : ByteArray) (v : Value) (h : IsTeller w g ts) (ha : a < g) (hb : Blk w a 66 #[.int .i64 n, .string s, v])
    (h1 : -9223372036854775808 ≤ n) (h2 : n ≤ 9223372036854775807) (hn : ts.length ≤ 17179869183) :
    Calls Tryd.prog 45 #[.pointer (some ⟨g, 0, none⟩), .pointer (some ⟨a, 0, none⟩)] w fun e w' => e = .returned (.bool false) ∧ IsTeller w' g (ts ++ tellsOf n s) ∧ TK g w w' := by
  obtain ⟨c0, c1, c2⟩ := hb.cells3
  have hp := placed_any w a n s v hb
  have HB := Lib.hid hb
  have H := Lib.hid h
  clear h hb
  by_cases hpos : 0 < n
  · have hd : tellsOf n s = [str ([108, 105, 110, 101, 32] ++ dec n)] ++ (if s.data.toList = [] then [] else [s]) := by unfold tellsOf; rw [if_pos hpos]
    have hsz : ((str (dec n)).size : Int) ≤ 20 := by rw [str_size]; have := dec_le h1 h2; omega
    have hne : str ([108, 105, 110, 101, 32] ++ dec n) = ({ data := #[108, 105, 110, 101, 32] } : ByteArray) ++ str (dec n) := ba_ext (by rw [append_str', str_list, str_list])
    have hnn : (if (str ([108, 105, 110, 101, 32] ++ dec n)).data.toList = [] then ([] : List ByteArray) else [str ([108, 105, 110, 101, 32] ++ dec n)]) = [str ([108, 105, 110, 101, 32] ++ dec n)] := if_neg (by rw [str_list]; simp)
    have HD := Lib.hid hd
    have HN := Lib.hid hne
    have HM := Lib.hid hnn
    clear hd hne hnn
    go_enter Tryd.func45, Tryd.ntmps45
    go_wp2_with (go_at_call 41; go_must (refine hp.mono ?_; rintro e w2 ⟨rfl, rfl⟩))
    refine (put_any _ n h1 h2).mono ?_
    rintro e w3 ⟨rfl, k3⟩
    have H3 := Lib.hid (IsTeller.keeps H k3 (fun _ _ => id))
    go_wp2_with fail
    rw [← HN.out]
    refine (add_any _ g ts _ H3 (by omega)).mono ?_
    rintro e w4 ⟨rfl, h4, k4⟩
    rw [HM.out] at h4
    have H4 := Lib.hid h4
    have hb4 := (Blk.keeps HB k3 id).keeps k4.up (by omega)
    obtain ⟨d0, d1, d2⟩ := hb4.cells3
    clear h4 hb4 hp
    go_wp2_with fail
    refine (add_any _ g _ s H4 (by simp; omega)).mono ?_
    rintro e w5 ⟨rfl, h5, k5⟩
    rw [List.append_assoc, ← HD.out] at h5
    go_wp2_with fail
    go_ret
    exact ⟨rfl, h5, ((TK.of k3).trans k4).trans k5⟩
  · have hd : tellsOf n s = (if s.data.toList = [] then [] else [s]) := by unfold tellsOf; rw [if_neg hpos, List.nil_append]
    have HD := Lib.hid hd
    have hq : decide (0 < n) = false := by simp; omega
    clear hd
    go_enter Tryd.func45, Tryd.ntmps45
    go_wp2_with (first
      | (go_at_call 41; go_must (refine hp.mono ?_; rintro e w2 ⟨rfl, rfl⟩))
      | (go_at_call 46; go_must (refine (add_any _ g ts s H (by omega)).mono ?_; rintro e w4 ⟨rfl, h4, k4⟩)))
    go_ret
    exact ⟨rfl, by rw [HD.out]; exact h4, k4⟩
end Go.Proofs.YtngjppckobfdeaaDoor
