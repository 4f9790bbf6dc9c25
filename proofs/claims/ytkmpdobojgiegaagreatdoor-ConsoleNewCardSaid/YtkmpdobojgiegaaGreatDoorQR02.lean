/-
  The document's Pad, Hex, Sign and Show.
-/
import Derived.Test.YtkmpdobojgiegaaGreatDoorQGround2
import Derived.Test.YtkmpdobojgiegaaGreatDoorQGround1
namespace Go.Proofs.YtkmpdobojgiegaaGreatDoor
open Go.RowKit

/-- a sign of sixteen -/
def hexD (n : Nat) : UInt8 := if n < 10 then UInt8.ofNat (48 + n) else UInt8.ofNat (87 + n)
theorem hex_ext16 : ∀ n : Nat, n < 16 → ({ data := #[48, 49, 50, 51, 52, 53, 54, 55, 56, 57, 97, 98, 99, 100, 101, 102] } : ByteArray).extract n (n + 1) = str [hexD n]
  | 0, _ => rfl | 1, _ => rfl | 2, _ => rfl | 3, _ => rfl | 4, _ => rfl | 5, _ => rfl | 6, _ => rfl | 7, _ => rfl | 8, _ => rfl | 9, _ => rfl
  | 10, _ => rfl | 11, _ => rfl | 12, _ => rfl | 13, _ => rfl | 14, _ => rfl | 15, _ => rfl
  | n + 16, h => by omega
theorem rdigit16_any (w : World) (n : Nat) (h1 : n < 16) :
    Calls Tryz.prog 232 #[.int .i64 n] w fun e w' => e = .returned (.string (str [hexD n])) ∧ Keeps (fun _ => False) w w' := by
  have hh := hex_ext16 n h1
  have HH : Hid (({ data := #[48, 49, 50, 51, 52, 53, 54, 55, 56, 57, 97, 98, 99, 100, 101, 102] } : ByteArray).extract (n : Int).toNat ((n : Int) + 1).toNat = str [hexD n]) := Lib.hid (by
    rw [show ((n : Int) + 1).toNat = n + 1 by omega, Int.toNat_natCast]; exact hh)
  clear hh
  go_enter Tryz.func232, Tryz.ntmps232
  go_wp2
  go_ret
  exact ⟨congrArg (fun s => Ending.returned (Value.string s)) HH.out, Keeps.refl _ _⟩
def hexL (c : UInt8) : List UInt8 := [hexD (c.toNat / 16), hexD (c.toNat % 16)]
set_option maxRecDepth 100000 in
theorem rhexP_any (w : World) (c : UInt8) :
    Calls Tryz.prog 230 #[.int .u8 c.toNat] w fun e w' => e = .returned (.string (str (hexL c))) ∧ Keeps (fun _ => False) w w' := by
  have hc := c.toNat_lt
  have e1 : ((c.toNat : Int).tdiv 16) = ((c.toNat / 16 : Nat) : Int) := by rw [Int.tdiv_eq_ediv_of_nonneg (by omega)]; rfl
  have e2 : ((c.toNat : Int).tmod 16) = ((c.toNat % 16 : Nat) : Int) := by rw [Int.tmod_eq_emod_of_nonneg (by omega)]; rfl
  obtain ⟨q, hq⟩ : ∃ q, q = c.toNat / 16 := ⟨_, rfl⟩
  obtain ⟨r, hr⟩ : ∃ r, r = c.toNat % 16 := ⟨_, rfl⟩
  rw [← hq] at e1
  rw [← hr] at e2
  have H1 := Lib.hid (fun W => rdigit16_any W q (by omega))
  have H2 := Lib.hid (fun W => rdigit16_any W r (by omega))
  have HE : Hid (hexL c = [hexD q, hexD r]) := Lib.hid (by unfold hexL; rw [hq, hr])
  have hone : ∀ x : Nat, (str [hexD x]).size = 1 := fun _ => rfl
  have hqb : (q : Int) ≤ 15 := by omega
  have hrb : (r : Int) ≤ 15 := by omega
  clear hq hr
  go_enter Tryz.func230, Tryz.ntmps230
  go_wp2_with fail
  refine (H1.out _).mono ?_
  rintro e w2 ⟨rfl, k2⟩
  go_wp2_with fail
  refine (H2.out _).mono ?_
  rintro e w3 ⟨rfl, k3⟩
  go_wp2_with fail
  go_ret
  exact ⟨by rw [HE.out]; exact congrArg (fun s => Ending.returned (Value.string s)) (ba_ext (by rw [append_str', str_list, str_list, str_list]; rfl)), k2.trans k3⟩
/-- what stands for a byte -/
def signL (c : UInt8) : List UInt8 := if c.toNat = 92 then [92, 92] else if c.toNat = 10 then [92, 110] else if c.toNat = 13 then [92, 114] else if c.toNat = 9 then [92, 116] else if c.toNat < 32 ∨ 126 < c.toNat then [92, 120] ++ hexL c else [c]
def showL (l : List UInt8) : List UInt8 := (l.map signL).flatten
theorem signL_len (c : UInt8) : 1 ≤ (signL c).length ∧ (signL c).length ≤ 4 := by
  unfold signL
  repeat' split
  all_goals exact ⟨by simp [hexL], by simp [hexL]⟩
set_option maxRecDepth 100000 in
theorem rsign_any (w : World) (c : UInt8) :
    Calls Tryz.prog 257 #[.int .u8 c.toNat] w fun e w' => e = .returned (.string (str (signL c))) ∧ Keeps (fun _ => False) w w' := by
  have hc := c.toNat_lt
  have hcl : (c.toNat : Int) ≤ 255 := by omega
  have HX := Lib.hid (fun W => rhexP_any W c)
  have hxs : (str (hexL c)).size = 2 := rfl
  by_cases h92 : c.toNat = 92
  · obtain rfl : c = 92 := UInt8.toNat_inj.1 (by simpa using h92)
    clear h92
    go_enter Tryz.func257, Tryz.ntmps257
    go_wp2_with fail
    go_ret
    exact ⟨rfl, Keeps.refl _ _⟩
  · by_cases h10 : c.toNat = 10
    · obtain rfl : c = 10 := UInt8.toNat_inj.1 (by simpa using h10)
      clear h92 h10
      go_enter Tryz.func257, Tryz.ntmps257
      go_wp2_with fail
      go_ret
      exact ⟨rfl, Keeps.refl _ _⟩
    · by_cases h13 : c.toNat = 13
      · obtain rfl : c = 13 := UInt8.toNat_inj.1 (by simpa using h13)
        clear h92 h10 h13
        go_enter Tryz.func257, Tryz.ntmps257
        go_wp2_with fail
        go_ret
        exact ⟨rfl, Keeps.refl _ _⟩
      · by_cases h9 : c.toNat = 9
        · obtain rfl : c = 9 := UInt8.toNat_inj.1 (by simpa using h9)
          clear h92 h10 h13 h9
          go_enter Tryz.func257, Tryz.ntmps257
          go_wp2_with fail
          go_ret
          exact ⟨rfl, Keeps.refl _ _⟩
        · have b92 : ((c.toNat : Int) == 92) = false := by rw [beq_eq_false_iff_ne]; omega
          have b10 : ((c.toNat : Int) == 10) = false := by rw [beq_eq_false_iff_ne]; omega
          have b13 : ((c.toNat : Int) == 13) = false := by rw [beq_eq_false_iff_ne]; omega
          have b9 : ((c.toNat : Int) == 9) = false := by rw [beq_eq_false_iff_ne]; omega
          by_cases hx : c.toNat < 32 ∨ 126 < c.toNat
          · have HS : Hid (signL c = [92, 120] ++ hexL c) := Lib.hid (by unfold signL; rw [if_neg h92, if_neg h10, if_neg h13, if_neg h9, if_pos hx])
            clear h92 h10 h13 h9
            rcases hx with hx | hx
            · have l1 : (c.toNat : Int) < 32 := by omega
              clear hx
              go_enter Tryz.func257, Tryz.ntmps257
              go_wp2_with fail
              refine (HX.out _).mono ?_
              rintro e w2 ⟨rfl, k2⟩
              go_wp2_with fail
              go_ret
              exact ⟨by rw [HS.out]; exact congrArg (fun s => Ending.returned (Value.string s)) (ba_ext (by rw [append_str', str_list, str_list])), k2⟩
            · have l1 : ¬ (c.toNat : Int) < 32 := by omega
              have l2 : (126 : Int) < c.toNat := by omega
              clear hx
              go_enter Tryz.func257, Tryz.ntmps257
              go_wp2_with fail
              refine (HX.out _).mono ?_
              rintro e w2 ⟨rfl, k2⟩
              go_wp2_with fail
              go_ret
              exact ⟨by rw [HS.out]; exact congrArg (fun s => Ending.returned (Value.string s)) (ba_ext (by rw [append_str', str_list, str_list])), k2⟩
          · have HS : Hid (signL c = [c]) := Lib.hid (by unfold signL; rw [if_neg h92, if_neg h10, if_neg h13, if_neg h9, if_neg hx])
            have l1 : ¬ (c.toNat : Int) < 32 := by omega
            have l2 : ¬ (126 : Int) < c.toNat := by omega
            clear h92 h10 h13 h9 hx
            go_enter Tryz.func257, Tryz.ntmps257
            go_wp2_with (with_reducible show wpList _ _ _ (⟨some 27, _, _, _, _, _⟩ :: _) _ _; go_must (refine wpList_string_bytes _ rfl (.tmp 26) 126 9 rfl 5 Tryz.underlying126 Tryz.underlying5 Tryz.underlying9 w.heap.size 0 1 1 rfl [c] rfl (const_cell w 5 c c.toNat rfl) ?_))
            go_ret
            exact ⟨by rw [HS.out]; rfl, (Keeps.refl _ _).alloc _⟩
theorem showL_len (l : List UInt8) : l.length ≤ (showL l).length ∧ (showL l).length ≤ 4 * l.length := by
  induction l with
  | nil => simp [showL]
  | cons c t ih =>
    have := signL_len c
    unfold showL at ih ⊢
    rw [List.map_cons, List.flatten_cons, List.length_append, List.length_cons]
    omega
theorem showL_snoc (l : List UInt8) (c : UInt8) : showL (l ++ [c]) = showL l ++ signL c := by simp [showL]
set_option maxRecDepth 100000 in
theorem rshow_any (w : World) (s : ByteArray) (hs : s.size ≤ 268435456) :
    Calls Tryz.prog 231 #[.string s] w fun e w' => e = .returned (.string (str (showL s.data.toList))) ∧ Keeps (fun _ => False) w w' := by
  obtain ⟨l, hl⟩ : ∃ l, l = s.data.toList := ⟨_, rfl⟩
  have hlen : l.length = s.size := by rw [hl]; simp
  have HG := Lib.hid (fun (k : Nat) c (hc : l[k]? = some c) => show ∀ hh, s[k]'hh = c from fun hh => by rw [← (List.getElem?_eq_some_iff.1 hc).2]; subst hl; rfl)
  rw [← hl]
  have HLN := Lib.hid hlen
  clear hl hlen
  go_enter Tryz.func231, Tryz.ntmps231
  go_wp2_with fail
  go_loopw [3, 4] (fun u3 u4 wr => ∃ i : Nat, i ≤ s.size ∧ u4 = .int .i64 i ∧ u3 = .string (str (showL (l.take i))) ∧ Keeps (fun _ => False) w wr) (fun _ u4 _ => s.size - (intOf u4).toNat)
  case atStart => exact ⟨0, Nat.zero_le _, rfl, rfl, Keeps.refl _ _⟩
  case round =>
    obtain ⟨i, hi, rfl, rfl, hK⟩ := hrel
    have hzz : (str (showL (l.take i))).size ≤ 1073741824 := by rw [str_size]; have := (showL_len (l.take i)).2; rw [List.length_take] at this; omega
    by_cases hilt : i < s.size
    · obtain ⟨d, hd⟩ : ∃ d, l[i]? = some d := ⟨_, List.getElem?_eq_getElem (by rw [HLN.out]; exact hilt)⟩
      have hsd := HG.out i d hd
      have HT : Hid (showL (l.take (i + 1)) = showL (l.take i) ++ signL d) := Lib.hid (by rw [List.take_add_one, hd, Option.toList_some, showL_snoc])
      have HI := Lib.hid (fun W => rsign_any W d)
      have hz2 : (str (signL d)).size ≤ 4 := by rw [str_size]; exact (signL_len d).2
      obtain ⟨q, hq⟩ : ∃ q, q = showL (l.take i) := ⟨_, rfl⟩
      rw [← hq] at HT hzz ⊢
      clear hd hq
      go_wp2_with fail
      refine (HI.out _).mono ?_
      rintro e w3 ⟨rfl, k3⟩
      go_wp2_with fail
      go_roundw
      case rel => exact ⟨i + 1, by omega, by go_num, by rw [HT.out]; exact congrArg Value.string (ba_ext (by rw [append_str', str_list, str_list, str_list])), hK.trans k3⟩
      case measure => simp [intOf] <;> omega
    · have hie : i = s.size := by omega
      subst hie
      have HE : Hid (showL (l.take s.size) = showL l) := Lib.hid (by rw [List.take_of_length_le (by rw [HLN.out]; exact Nat.le_refl _)])
      go_wp2_with fail
      go_ret
      exact ⟨by rw [HE.out]; rfl, hK⟩
/-- noughts ahead -/
def padL (l : List UInt8) (w : Nat) : List UInt8 := List.replicate (w - l.length) 48 ++ l
theorem padL_step {l : List UInt8} {w : Nat} (h : l.length < w) : padL (48 :: l) w = padL l w := by
  unfold padL
  rw [List.length_cons, show w - l.length = (w - (l.length + 1)) + 1 by omega, List.replicate_succ', List.append_assoc]
  rfl
theorem padL_end {l : List UInt8} {w : Nat} (h : w ≤ l.length) : padL l w = l := by
  unfold padL
  rw [Nat.sub_eq_zero_of_le h]; rfl
set_option maxRecDepth 100000 in
theorem rpad_any (w : World) (n : Nat) (k : Nat) (hn : n ≤ 9223372036854775807) (hk : k ≤ 20) :
    Calls Tryz.prog 229 #[.int .i64 n, .int .i64 k] w fun e w' => e = .returned (.string (str (padL (decN n) k))) ∧ Keeps (fun _ => False) w w' := by
  have hp := fun W => rput_any n W (n : Int) (by omega) (by omega) (by omega)
  rw [dec_pos (by omega), Int.toNat_natCast] at hp
  have HP := Lib.hid hp
  have hdl : (decN n).length ≤ 20 := Nat.le_trans (decN_le (n := n) (by omega)) (by omega)
  clear hp
  obtain ⟨l0, hl0⟩ : ∃ l0, l0 = decN n := ⟨_, rfl⟩
  rw [← hl0] at HP hdl ⊢
  clear hl0
  go_enter Tryz.func229, Tryz.ntmps229
  go_wp2_with fail
  refine (HP.out _).mono ?_
  rintro e w2 ⟨rfl, k2⟩
  go_wp2_with fail
  go_loopw [5] (fun u5 wr => ∃ l : List UInt8, u5 = .string (str l) ∧ l.length ≤ 20 ∧ Hid (padL l k = padL l0 k) ∧ wr = w2) (fun u5 _ => match u5 with | .string s => 20 - s.size | _ => 0)
  case atStart => exact ⟨l0, rfl, hdl, Lib.hid rfl, rfl⟩
  case round =>
    obtain ⟨l, rfl, hll, HL, rfl⟩ := hrel
    have hz : (str l).size = l.length := str_size l
    obtain ⟨m, hm⟩ : ∃ m, m = l.length := ⟨_, rfl⟩
    rw [← hm] at hz hll
    have HM := Lib.hid hm
    clear hm
    by_cases hlt : m < k
    · go_wp2_with fail
      go_roundw
      case rel => exact ⟨48 :: l, congrArg Value.string (ba_ext (by rw [append_str', str_list, str_list]; rfl)), by rw [List.length_cons, ← HM.out]; omega, Lib.hid (by rw [padL_step (by rw [← HM.out]; exact hlt)]; exact HL.out), trivial⟩
      case measure =>
        have e1 : ({ data := #[48] } : ByteArray).size = 1 := rfl
        simp only [ByteArray.size_append, hz, e1]
        omega
    · have HE : Hid (padL l0 k = l) := Lib.hid (by rw [← HL.out, padL_end (by rw [← HM.out]; omega)])
      go_wp2_with fail
      go_ret
      exact ⟨by rw [HE.out]; rfl, k2⟩
end Go.Proofs.YtkmpdobojgiegaaGreatDoor
