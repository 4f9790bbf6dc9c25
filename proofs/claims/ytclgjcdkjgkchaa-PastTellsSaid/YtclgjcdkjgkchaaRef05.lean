/-
  The document's lines (wheelhouseref05) and past (wheelhouseref31): what Lines, Last, From and Back hand back.
-/
import Derived.Test.YtclgjcdkjgkchaaChecked
import Derived.Test.YtclgjcdkjgkchaaLines
import Derived.Test.YtclgjcdkjgkchaaOwn
namespace Go.Proofs.Ytclgjcdkjgkchaa
open Go.RowKit

/-- a text's lines as values -/
def lineVs (ls : List (List UInt8)) : List Value := ls.map fun l => Value.string (str l)

theorem append_str (a b : ByteArray) : (a ++ b).data.toList = a.data.toList ++ b.data.toList := by simp
theorem ext_one (s : ByteArray) (k : Nat) (c : UInt8) (h : s.data.toList[k]? = some c) : (s.extract k (k + 1)).data.toList = [c] := by
  simp only [ByteArray.data_extract, Array.toList_extract, List.extract_eq_take_drop]
  rw [show k + 1 - k = 1 by omega]
  obtain ⟨hk, he⟩ := List.getElem?_eq_some_iff.1 h
  rw [List.drop_eq_getElem_cons hk, he]
  rfl

set_option maxRecDepth 100000 in
set_option maxHeartbeats 1000000 in
theorem lines_any (w : World) (s : ByteArray) (hs : s.size ≤ 17179869184) :
    Calls Try.prog 42 #[.string s] w fun e w' => ∃ v, e = .returned v ∧ OwnL w' w.heap.size 9 v (lineVs (linesP s.data.toList)) ∧ Keeps (fun _ => False) w w' := by
  have hl : s.data.toList.length = s.size := by simp
  go_enter Try.func42, Try.ntmps42
  go_wp2_with fail
  go_loopw [3, 4, 5] (fun u3 u4 u5 wr => ∃ (k : Nat) (ls : List (List UInt8)) (a : ByteArray), k ≤ s.size ∧ u5 = .int .i64 k ∧ u4 = .string a ∧ a.size ≤ k ∧ 10 ∉ a.data.toList ∧ ls.length ≤ k ∧
      linesP s.data.toList = ls ++ linesP (a.data.toList ++ s.data.toList.drop k) ∧ OwnL wr w.heap.size 9 u3 (lineVs ls) ∧ Keeps (fun _ => False) w wr) (fun _ _ u5 _ => s.size - (intOf u5).toNat)
  case atStart => exact ⟨0, [], ⟨#[]⟩, by omega, rfl, rfl, by decide, by simp, by simp, by simp, OwnL.none_ _ _ _, Keeps.refl _ _⟩
  case round =>
    obtain ⟨k, ls, a, hk, rfl, rfl, ha, hna, hls, hL, hO, hK⟩ := hrel
    have HL := Lib.hid hL
    have HN := Lib.hid hna
    clear hL hna
    by_cases hlt : k < s.size
    · obtain ⟨c, hc⟩ : ∃ c, s.data.toList[k]? = some c := ⟨_, List.getElem?_eq_getElem (by omega)⟩
      have hsk : s[k] = c := by
        have := (List.getElem?_eq_some_iff.1 hc).2
        rw [← this]
        rfl
      have hone := ext_one s k c hc
      have hdk : s.data.toList.drop k = c :: s.data.toList.drop (k + 1) := by
        obtain ⟨h1, h2⟩ := List.getElem?_eq_some_iff.1 hc
        rw [List.drop_eq_getElem_cons h1, h2]
      obtain ⟨a2, ha2⟩ : ∃ a2, a ++ s.extract k (k + 1) = a2 := ⟨_, rfl⟩
      have had : a2.data.toList = a.data.toList ++ [c] := by rw [← ha2, append_str, hone]
      have has : a2.size = a.size + 1 := by
        have h1 : a2.data.toList.length = a2.size := by simp
        have h2 : a.data.toList.length = a.size := by simp
        rw [← h1, had, List.length_append, h2]; rfl
      have HA := Lib.hid had
      have HS := Lib.hid has
      have HD := Lib.hid hdk
      have HC := Lib.hid hc
      clear hone hdk had has hc
      by_cases h10 : c = 10
      · subst h10
        go_wp2_with (with_reducible show wpList _ _ _ (⟨some 26, _, _, _, _, _⟩ :: _) _ _; go_must (refine wpList_append_one rfl (.tmp 23) (.tmp 25) 44 rfl w.heap.size 9 (.string ⟨#[]⟩) 16 Try.underlying44 (by kernel_rfl) rfl (by omega) u3 (lineVs ls) rfl (hO.keeps ((Keeps.refl (fun _ => False) _).alloc _) (fun _ _ _ => id)) ⟨wr.heap.size, 0, none⟩ 1 (.string a2) rfl ((Blk.new _ _ _).cell 0) rfl (by simp [lineVs]; omega) (by have := hK.size; simp; omega) ?_; intro v7 w7 O7 k7))
        go_roundw
        case rel =>
          refine ⟨k + 1, ls ++ [a.data.toList ++ [10]], ⟨#[]⟩, by omega, by go_num, rfl, by simp [ByteArray.size], by simp, by simp; omega, ?_, ?_, ?_⟩
          · rw [HL.out, HD.out, linesP_front _ HN.out]; simp
          · have : lineVs (ls ++ [a.data.toList ++ [10]]) = lineVs ls ++ [.string a2] := by
              unfold lineVs; rw [List.map_append, ← HA.out]; rfl
            rw [this]; exact O7
          · exact (hK.alloc _).and_ k7 (fun i hi e => by omega)
        case measure => simp [intOf]; omega
      · have hcn : ((c.toNat : Int) == 10) = false := by
          rw [beq_eq_false_iff_ne]
          intro e
          exact h10 (UInt8.toNat_inj.1 (by simpa using (show c.toNat = 10 by omega)))
        go_wp2_with fail
        go_roundw
        case rel =>
          refine ⟨k + 1, ls, a2, by omega, by go_num, rfl, by rw [HS.out]; omega, ?_, by omega, ?_, hO, hK⟩
          · rw [HA.out]; intro e; rcases List.mem_append.1 e with e | e
            · exact HN.out e
            · simp at e; exact h10 e.symm
          · rw [HL.out, HD.out, HA.out]; simp
        case measure => simp [intOf]; omega
    · have hk2 : k = s.size := by omega
      subst hk2
      have hdk : s.data.toList.drop s.size = [] := List.drop_eq_nil_of_le (by omega)
      have hlast := linesP_rest a.data.toList HN.out
      have HD := Lib.hid hdk
      have HR := Lib.hid hlast
      clear hdk hlast
      by_cases h0 : a.data.toList = []
      · have hae : a = ⟨#[]⟩ := ba_ext h0
        subst hae
        go_wp2_with fail
        go_ret
        exact ⟨_, rfl, by rw [HL.out, HD.out]; simpa [linesP] using hO, hK⟩
      · have h1 : a.toList.isEmpty = false := by
          rw [ByteArray.toList_eq]
          cases hh : a.data.toList with
          | nil => exact absurd hh h0
          | cons x y => rfl
        go_wp2_with (with_reducible show wpList _ _ _ (⟨some 32, _, _, _, _, _⟩ :: _) _ _; go_must (refine wpList_append_one rfl (.tmp 29) (.tmp 31) 44 rfl w.heap.size 9 (.string ⟨#[]⟩) 16 Try.underlying44 (by kernel_rfl) rfl (by omega) u3 (lineVs ls) rfl (hO.keeps ((Keeps.refl (fun _ => False) _).alloc _) (fun _ _ _ => id)) ⟨wr.heap.size, 0, none⟩ 1 (.string a) rfl ((Blk.new _ _ _).cell 0) rfl (by simp [lineVs]; omega) (by have := hK.size; simp; omega) ?_; intro v7 w7 O7 k7))
        go_ret
        refine ⟨_, rfl, ?_, (hK.alloc _).and_ k7 (fun i hi e => by omega)⟩
        have hR := HR.out
        rw [if_neg h0] at hR
        rw [HL.out, HD.out, List.append_nil, hR]
        have : lineVs (ls ++ [a.data.toList]) = lineVs ls ++ [.string a] := by
          unfold lineVs; rw [List.map_append]; rfl
        rw [this]
        exact O7

theorem lineVs_len (ls : List (List UInt8)) : (lineVs ls).length = ls.length := by simp [lineVs]
/-- the last lines of a text -/
def lastP (t : List UInt8) (n : Int) : List UInt8 := ((linesP t).drop ((linesP t).length - n.toNat)).flatten

theorem linesP_len (t : List UInt8) : (linesP t).length ≤ t.length := by
  induction t with
  | nil => simp [linesP]
  | cons c s ih =>
    by_cases hc : c = 10
    · subst hc; rw [linesP_feed]; simp; omega
    · cases hs : linesP s with
      | nil => rw [linesP_nil c s hc hs]; simp
      | cons l ls => rw [linesP_cons c s hc hs]; rw [hs] at ih; simp at ih ⊢; omega

theorem flat_drop_le (ls : List (List UInt8)) (m : Nat) : (ls.drop m).flatten.length ≤ ls.flatten.length := by
  have h : ls.flatten = (ls.take m).flatten ++ (ls.drop m).flatten := by rw [← List.flatten_append, List.take_append_drop]
  rw [h, List.length_append]; omega
theorem flat_take_le (ls : List (List UInt8)) (k : Nat) : (ls.take k).flatten.length ≤ ls.flatten.length := by
  have h : ls.flatten = (ls.take k).flatten ++ (ls.drop k).flatten := by rw [← List.flatten_append, List.take_append_drop]
  rw [h, List.length_append]; omega
theorem flat_one_le (ls : List (List UInt8)) (k : Nat) (h : k < ls.length) : ls[k].length ≤ ls.flatten.length := by
  have h1 := flat_drop_le ls k
  rw [List.drop_eq_getElem_cons h, List.flatten_cons, List.length_append] at h1
  omega

set_option maxRecDepth 100000 in
set_option maxHeartbeats 1000000 in
theorem last_any (w : World) (s : ByteArray) (n : Int) (hs : s.size ≤ 17179869184) (hn : -1099511627776 ≤ n ∧ n ≤ 1099511627776) :
    Calls Try.prog 41 #[.string s, .int .i64 n] w fun e w' => e = .returned (.string (str (lastP s.data.toList n))) ∧ Keeps (fun _ => False) w w' := by
  obtain ⟨hn1, hn2⟩ := hn
  have hl : s.data.toList.length = s.size := by simp
  obtain ⟨ls, hls⟩ : ∃ ls, ls = linesP s.data.toList := ⟨_, rfl⟩
  have hll : ls.length ≤ s.size := by rw [hls, ← hl]; exact linesP_len _
  have hfl : ls.flatten.length = s.size := by rw [hls, linesP_flat, hl]
  have HL := Lib.hid hls
  have HF := Lib.hid hfl
  clear hls hfl
  go_enter Try.func41, Try.ntmps41
  go_wp2_with (go_at_call 42; refine (lines_any _ s hs).mono ?_; rintro e w2 ⟨v, rfl, O2, k2⟩; rw [← HL.out] at O2; have sh := O2.shape; rw [lineVs_len] at sh; obtain ⟨ad, cap, rfl, hc1, hc2, hc3, hc4⟩ := sh)
  have HC := Lib.hid hc4
  clear hc4
  go_loop [6, 7] (fun u6 u7 => ∃ (k : Nat) (o : ByteArray), k ≤ ls.length ∧ u7 = .int .i64 k ∧ u6 = .string o ∧ o.data.toList = ((ls.take k).drop (ls.length - n.toNat)).flatten ∧ o.size ≤ s.size) (fun _ u7 => ls.length - (intOf u7).toNat)
  case atStart => exact ⟨0, ⟨#[]⟩, by omega, rfl, rfl, by rw [List.take_zero, List.drop_nil]; rfl, Nat.zero_le _⟩
  case round =>
    obtain ⟨k, o, hk, rfl, rfl, ho, hos⟩ := hrel
    have HO := Lib.hid ho
    clear ho
    by_cases hlt : k < ls.length
    · obtain ⟨g, rfl, hg1, hg2⟩ := hc3 (by omega)
      have hcell := (HC.out g rfl k (.string (str ls[k])) (by simp [lineVs, hlt])).1
      have hrec : (ls.take (k + 1)).drop (ls.length - n.toNat) = if ls.length - n.toNat ≤ k then (ls.take k).drop (ls.length - n.toNat) ++ [ls[k]] else [] := by
        rw [List.take_add_one, List.getElem?_eq_getElem hlt]
        split
        · rw [List.drop_append_of_le_length (by simp; omega)]; rfl
        · exact List.drop_eq_nil_of_le (by simp; omega)
      have hb : (o.size : Int) + ((str ls[k]).size : Int) ≤ 34359738368 := by
        have h1 := flat_one_le ls k hlt
        rw [str_size]
        have := HF.out
        omega
      have HR := Lib.hid hrec
      clear hrec
      have hfin : ∀ o' : ByteArray, o'.data.toList = ((ls.take (k + 1)).drop (ls.length - n.toNat)).flatten → o'.size ≤ s.size := fun o' h => by
        have h1 := flat_drop_le (ls.take (k + 1)) (ls.length - n.toNat)
        have h2 := flat_take_le ls (k + 1)
        have h3 : o'.data.toList.length = o'.size := by simp
        rw [← h3, h, ← HF.out]; omega
      have HI := Lib.hid hfin
      clear hfin
      by_cases hc : ls.length - n.toNat ≤ k
      · have ht : (ls.length : Int) - n ≤ k := by omega
        go_wp2_with fail
        go_round
        case rel =>
          have h1 : (o ++ str ls[k]).data.toList = ((ls.take (k + 1)).drop (ls.length - n.toNat)).flatten := by
            rw [append_str, HO.out, HR.out, if_pos hc, List.flatten_append, str_list]; simp
          exact ⟨k + 1, o ++ str ls[k], by omega, by go_num, rfl, h1, HI.out _ h1⟩
        case measure => simp [intOf]; omega
      · have ht : (k : Int) < (ls.length : Int) - n := by omega
        go_wp2_with fail
        go_round
        case rel =>
          have h1 : o.data.toList = ((ls.take (k + 1)).drop (ls.length - n.toNat)).flatten := by
            rw [HR.out, if_neg hc, HO.out, List.drop_eq_nil_of_le (by simp; omega)]
          exact ⟨k + 1, o, by omega, by go_num, rfl, h1, hos⟩
        case measure => simp [intOf]; omega
    · have hk2 : k = ls.length := by omega
      subst hk2
      go_wp2_with fail
      go_ret
      exact ⟨by have := HO.out; rw [List.take_length] at this; rw [show o = str (lastP s.data.toList n) from ba_ext (by rw [this, str_list]; unfold lastP; rw [← HL.out])]; rfl, k2⟩

theorem from_any (w : World) (a : ByteArray) (m : Nat) (hs : a.size ≤ 17179869184) (hm : m ≤ 17179869184) :
    Calls Try.prog 29 #[.string a, .int .i64 m] w (Qt (.int .i64 (a.size - m : Nat)) w) := by
  by_cases hc : a.size ≤ m
  · have h1 : ((0 : Int) < (a.size : Int) - m) = False := eq_false (by omega)
    go_enter Try.func29, Try.ntmps29
    go_wp2
    all_goals go_ret
    all_goals exact Qt.of0 (int_eq (by omega))
  · go_enter Try.func29, Try.ntmps29
    go_wp2
    all_goals go_ret
    all_goals exact Qt.of0 (int_eq (by omega))

set_option maxRecDepth 100000 in
theorem rback_any (w : World) (a : ByteArray) (m : Int) (n : Int) (hs : a.size ≤ 17179869184) (h0 : 0 ≤ m) (hm : m ≤ 17179869184) (hn : -1099511627776 ≤ n ∧ n ≤ 1099511627776) :
    Calls Try.prog 33 #[.string a, .int .i64 m, .int .i64 n] w fun e w' => e = .returned (.int .i64 ((a.size - m.toNat) + backN (a.data.toList.drop (a.size - m.toNat)) (a.size - (a.size - m.toNat)) n.toNat : Nat)) ∧ Keeps (fun _ => False) w w' := by
  obtain ⟨m, rfl⟩ := Int.eq_ofNat_of_zero_le h0
  rw [Int.toNat_natCast]
  obtain ⟨q, hq⟩ : ∃ q, q = a.size - m := ⟨_, rfl⟩
  have hq2 : q ≤ a.size := by omega
  have hl : (a.data.toList.drop q).length = a.size - q := by simp
  have hb := back_last n.toNat (a.data.toList.drop q)
  rw [hl] at hb
  have hc := from_any w a m hs (by omega)
  rw [← hq] at hc ⊢
  have hx : (a.extract q a.size).data.toList = a.data.toList.drop q := ext_list a q
  have hlast := fun W => last_any W (a.extract q a.size) n (by rw [ext_size]; omega) hn
  rw [hx] at hlast
  have hsz : ((str (lastP (a.data.toList.drop q) n)).size : Int) = (a.size : Int) - ((q + backN (a.data.toList.drop q) (a.size - q) n.toNat : Nat) : Int) := by
    rw [str_size]
    have := backN_le (a.data.toList.drop q) n.toNat (a.size - q)
    unfold lastP
    omega
  obtain ⟨ts, hts⟩ : ∃ ts, ts = str (lastP (a.data.toList.drop q) n) := ⟨_, rfl⟩
  rw [← hts] at hlast hsz
  have HC := Lib.hid hc
  have HL := Lib.hid hlast
  have HZ := Lib.hid hsz
  have htsz : ts.size ≤ a.size := by omega
  clear hq hl hb hc hx hlast hts hsz
  go_enter Try.func33, Try.ntmps33
  go_wp2_with (first | (go_at_call 29; refine HC.out.mono ?_; rintro e w2 ⟨rfl, k2, rfl⟩) | (go_at_call 41; go_must (refine (HL.out _).mono ?_; rintro e w3 ⟨rfl, k3⟩)))
  go_ret
  exact ⟨by have := HZ.out; exact congrArg Ending.returned (int_eq (by omega)), k3.from_drewN⟩
end Go.Proofs.Ytclgjcdkjgkchaa
