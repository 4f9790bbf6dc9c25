/-
  The document's pieces (wheelhouseref12): which bytes and texts may be words; a piece as text.
-/
import Derived.Test.YtfpajgmdejlaeaaGreatDoorQGround2
namespace Go.Proofs.YtfpajgmdejlaeaaGreatDoor
open Go.RowKit

set_option maxRecDepth 100000 in
theorem rplain_any (w : World) (n : Nat) (hn : n < 256) : Calls Tryz.prog 98 #[.int .u8 n] w fun e w' => e = .returned (.bool (plainN n)) ∧ w' = w := by
  by_cases h : n = 123 ∨ n = 125 ∨ n = 59 ∨ n = 34 ∨ n = 35 ∨ n = 92
  · have hp : plainN n = false := by unfold plainN; simp [h]
    rcases h with rfl | rfl | rfl | rfl | rfl | rfl
    all_goals
      go_enter Tryz.func98, Tryz.ntmps98
      go_wp2
      go_ret
      exact ⟨by rw [hp]; rfl, rfl⟩
  · have h1 : ((n : Int) != 123) = true := by rw [bne_iff_ne]; omega
    have h2 : ((n : Int) != 125) = true := by rw [bne_iff_ne]; omega
    have h3 : ((n : Int) != 59) = true := by rw [bne_iff_ne]; omega
    have h4 : ((n : Int) != 34) = true := by rw [bne_iff_ne]; omega
    have h5 : ((n : Int) != 35) = true := by rw [bne_iff_ne]; omega
    have h6 : ((n : Int) != 92) = true := by rw [bne_iff_ne]; omega
    have hp : plainN n = (decide (32 < n) && decide (n ≤ 126)) := by unfold plainN; simp [h]
    by_cases a : 33 ≤ n
    · by_cases b : n ≤ 126
      · have HP : Hid (plainN n = true) := Lib.hid (by rw [hp]; simp [b]; omega)
        clear hp h
        go_enter Tryz.func98, Tryz.ntmps98
        go_wp2
        go_ret
        exact ⟨by rw [HP.out]; simp <;> omega, rfl⟩
      · have HP : Hid (plainN n = false) := Lib.hid (by rw [hp]; simp [b])
        clear hp h
        go_enter Tryz.func98, Tryz.ntmps98
        go_wp2
        go_ret
        exact ⟨by rw [HP.out]; simp <;> omega, rfl⟩
    · have HP : Hid (plainN n = false) := Lib.hid (by rw [hp]; simp; omega)
      clear hp h
      go_enter Tryz.func98, Tryz.ntmps98
      go_wp2
      go_ret
      exact ⟨by rw [HP.out]; simp <;> omega, rfl⟩

set_option maxRecDepth 100000 in
theorem rwordy_any (w : World) (s : ByteArray) (hs : s.size ≤ 17179869184) : Calls Tryz.prog 63 #[.string s] w fun e w' => e = .returned (.bool (wordyP s.data.toList)) ∧ w' = w := by
  have hl : s.data.toList.length = s.size := by simp
  go_enter Tryz.func63, Tryz.ntmps63
  go_wp2_with fail
  go_loop [3] (fun u3 => ∃ k : Nat, k ≤ s.size ∧ u3 = .int .i64 k ∧ ∀ c ∈ s.data.toList.take k, plainB c = true) (fun u3 => s.size - (intOf u3).toNat)
  case atStart => exact ⟨0, Nat.zero_le _, rfl, by simp⟩
  case round =>
    obtain ⟨k, hk, rfl, hall⟩ := hrel
    have HA := Lib.hid hall
    clear hall
    by_cases hp : k < s.size
    · obtain ⟨c, hc⟩ : ∃ c, s.data.toList[k]? = some c := ⟨_, List.getElem?_eq_getElem (by omega)⟩
      have hsc : s[k] = c := by
        have := (List.getElem?_eq_some_iff.1 hc).2
        rw [← this]; rfl
      have HC := Lib.hid hc
      have hcl := UInt8.toNat_lt c
      have hq := fun w => rplain_any w c.toNat (by omega)
      clear hc
      by_cases hpl : plainB c = true
      · rw [show plainN c.toNat = true from hpl] at hq
        have HQ := Lib.hid hq
        have HPL := Lib.hid hpl
        clear hq hpl
        go_wp2_with (go_at_call 98; go_must (refine (HQ.out _).mono ?_; rintro e w2 ⟨rfl, rfl⟩))
        go_round
        case rel =>
          refine ⟨k + 1, by omega, by go_num, ?_⟩
          intro d hd
          rw [List.take_add_one, HC.out] at hd
          rcases List.mem_append.1 hd with hd | hd
          · exact HA.out d hd
          · rw [Option.toList_some, List.mem_singleton] at hd; subst hd; exact HPL.out
        case measure => simp [intOf] <;> omega
      · have hpf : plainB c = false := by simpa using hpl
        have hend : Hid (wordyP s.data.toList = false) := Lib.hid (by
          unfold wordyP; rw [Bool.and_eq_false_iff]; right
          rw [List.all_eq_false]; exact ⟨c, List.mem_of_getElem? HC.out, by simp [hpf]⟩)
        rw [show plainN c.toNat = false from hpf] at hq
        have HQ := Lib.hid hq
        clear hq hpl hpf
        go_wp2_with (go_at_call 98; go_must (refine (HQ.out _).mono ?_; rintro e w2 ⟨rfl, rfl⟩))
        go_ret
        exact ⟨by rw [hend.out]; rfl, rfl⟩
    · have hall : s.data.toList.all plainB = true := by
        rw [List.all_eq_true]; intro d hd
        have := HA.out d
        rw [List.take_of_length_le (by omega)] at this
        exact this hd
      have HW : Hid (wordyP s.data.toList = decide (s.data.toList ≠ [])) := Lib.hid (by unfold wordyP; rw [hall, Bool.and_true])
      clear hall
      by_cases h0 : s.data.toList = []
      · obtain rfl : k = 0 := by rw [h0] at hl; simp at hl; omega
        obtain rfl : s = ⟨#[]⟩ := ba_ext h0
        have HW2 : Hid (wordyP (⟨#[]⟩ : ByteArray).data.toList = false) := Lib.hid rfl
        clear HW HA h0 hk hp hl hs
        go_wp2_with fail
        go_ret
        exact ⟨by rw [HW2.out]; rfl, rfl⟩
      · have h1 := ne_nil h0
        have HD : Hid (decide (s.data.toList ≠ []) = true) := Lib.hid (by simp only [decide_eq_true_eq]; exact h0)
        clear h0
        go_wp2_with fail
        go_ret
        exact ⟨by rw [HW.out, HD.out]; rfl, rfl⟩

theorem const_cell (w : World) (T : TypeId) (c : UInt8) (n : Int) (hn : n = c.toNat) : ∀ j v, [c][j]? = some v → (w.alloc (.cells #[.int .u8 n] T)).cell? ⟨w.heap.size, 0 + j, none⟩ = some (.int .u8 v.toNat) := by
  intro j v hj
  match j, hj with
  | 0, hj =>
    simp at hj; subst hj; subst hn
    exact (Blk.new w T _).cell 0
  | j + 1, hj => simp at hj
theorem ext_one' (s : ByteArray) (k : Nat) (c : UInt8) (h : s.data.toList[k]? = some c) : s.extract k (k + 1) = str [c] := by
  apply ba_ext
  simp only [ByteArray.data_extract, Array.toList_extract, List.extract_eq_take_drop]
  rw [show k + 1 - k = 1 by omega]
  obtain ⟨hk, he⟩ := List.getElem?_eq_some_iff.1 h
  rw [List.drop_eq_getElem_cons hk, he]
  rfl

set_option maxRecDepth 100000 in
set_option maxHeartbeats 2000000 in
theorem rlput_any (w : World) (kind : Int) (s : ByteArray) (hs : s.size ≤ 1073741824) :
    Calls Tryz.prog 99 #[.int .i64 kind, .string s] w fun e w' => e = .returned (putV kind s.data.toList) ∧ Keeps (fun _ => False) w w' := by
  have hl : s.data.toList.length = s.size := by simp
  by_cases h1 : kind = 1
  · subst h1
    have hw := rwordy_any w s (by omega)
    by_cases hwd : wordyP s.data.toList = true
    · rw [hwd] at hw
      have HW := Lib.hid hw
      have HP : Hid (putV 1 s.data.toList = .tuple #[.string s, .int .i64 0]) := Lib.hid (by unfold putV putP_lexm; rw [if_pos rfl, if_pos hwd, str_of])
      clear hw hwd
      go_enter Tryz.func99, Tryz.ntmps99
      go_wp2_with fail
      refine HW.out.mono ?_
      rintro e w2 ⟨rfl, rfl⟩
      go_wp2_with fail
      go_ret2
      exact ⟨by rw [HP.out]; rfl, Keeps.refl _ _⟩
    · have hwf : wordyP s.data.toList = false := by simpa using hwd
      rw [hwf] at hw
      have HW := Lib.hid hw
      have HP : Hid (putV 1 s.data.toList = .tuple #[.string ⟨#[]⟩, .int .i64 3]) := Lib.hid (by unfold putV putP_lexm; rw [if_pos rfl, if_neg hwd]; rfl)
      clear hw hwd hwf
      go_enter Tryz.func99, Tryz.ntmps99
      go_wp2_with fail
      refine HW.out.mono ?_
      rintro e w2 ⟨rfl, rfl⟩
      go_wp2_with fail
      go_ret2
      exact ⟨by rw [HP.out]; rfl, Keeps.refl _ _⟩
  · by_cases h2 : kind = 2
    · subst h2
      have hk1 : Keeps (fun _ => False) w (w.alloc (.cells #[.int .u8 34] 5)) := (Keeps.refl _ w).alloc _
      go_enter Tryz.func99, Tryz.ntmps99
      go_wp2_with (with_reducible show wpList _ _ _ (⟨some 30, _, _, _, _, _⟩ :: _) _ _; go_must (refine wpList_string_bytes _ rfl (.tmp 29) 90 9 rfl 5 Tryz.underlying90 Tryz.underlying5 Tryz.underlying9 w.heap.size 0 1 1 rfl [34] rfl (const_cell w 5 34 34 rfl) ?_))
      go_loopw [6, 7] (fun u6 u7 wr => ∃ k : Nat, k ≤ s.size ∧ u7 = .int .i64 k ∧ (∀ c ∈ s.data.toList.take k, seenB c = true) ∧ u6 = .string (str (34 :: quotedP (s.data.toList.take k))) ∧ Keeps (fun _ => False) w wr) (fun _ u7 _ => s.size - (intOf u7).toNat)
      case atStart => exact ⟨0, Nat.zero_le _, rfl, by simp, rfl, hk1⟩
      case round =>
        obtain ⟨k, hk, rfl, hall, rfl, hK⟩ := hrel
        have HA := Lib.hid hall
        clear hall
        have hql := quotedP_len (s.data.toList.take k)
        have hqs : (str (34 :: quotedP (s.data.toList.take k))).size ≤ 2 * k + 1 := by rw [str_size, List.length_cons]; rw [List.length_take] at hql; omega
        obtain ⟨q, hq0⟩ : ∃ q, q = quotedP (s.data.toList.take k) := ⟨_, rfl⟩
        rw [← hq0] at hqs ⊢
        have HQ0 := Lib.hid hq0
        clear hql hq0
        by_cases hp : k < s.size
        · obtain ⟨c, hc⟩ : ∃ c, s.data.toList[k]? = some c := ⟨_, List.getElem?_eq_getElem (by omega)⟩
          have hsc : s[k] = c := by
            have := (List.getElem?_eq_some_iff.1 hc).2
            rw [← this]; rfl
          have hone := ext_one' s k c hc
          have z1 : (str [c]).size = 1 := rfl
          have z92 : (str [92]).size = 1 := rfl
          have HC := Lib.hid hc
          have htk : s.data.toList.take (k + 1) = s.data.toList.take k ++ [c] := by rw [List.take_add_one, hc]; rfl
          have hqn := quotedP_snoc (s.data.toList.take k) c
          rw [← htk, ← HQ0.out] at hqn
          have HQN := Lib.hid hqn
          have HTK := Lib.hid htk
          clear hc htk hqn
          by_cases hsn : 32 ≤ c.toNat ∧ c.toNat ≤ 126
          · obtain ⟨hs1, hs2⟩ := hsn
            have hseen : Hid (seenB c = true) := Lib.hid (by unfold seenB; simp; omega)
            have hall2 : Hid (∀ d ∈ s.data.toList.take (k + 1), seenB d = true) := Lib.hid (by
              intro d hd
              rw [HTK.out] at hd
              rcases List.mem_append.1 hd with hd | hd
              · exact HA.out d hd
              · rw [List.mem_singleton] at hd; subst hd; exact hseen.out)
            by_cases he : c.toNat = 34 ∨ c.toNat = 92
            · have HE := Lib.hid he
              have hq92 : Hid (quotedP (s.data.toList.take (k + 1)) = q ++ [92, c]) := Lib.hid (by have := HQN.out; rw [if_pos HE.out] at this; exact this)
              rcases he with he | he
              · obtain rfl : c = 34 := UInt8.toNat_inj.1 (by simpa using he)
                clear he
                go_wp2_with (with_reducible show wpList _ _ _ (⟨some 59, _, _, _, _, _⟩ :: _) _ _; go_must (refine wpList_string_bytes _ rfl (.tmp 58) 90 9 rfl 5 Tryz.underlying90 Tryz.underlying5 Tryz.underlying9 wr.heap.size 0 1 1 rfl [92] rfl (const_cell wr 5 92 92 rfl) ?_))
                go_roundw
                case rel => exact ⟨k + 1, by omega, by go_num, hall2.out, congrArg Value.string (ba_ext (by rw [append_str, append_str, hq92.out]; simp [str_list])), hK.alloc _⟩
                case measure => simp [intOf] <;> omega
              · obtain rfl : c = 92 := UInt8.toNat_inj.1 (by simpa using he)
                clear he
                go_wp2_with (with_reducible show wpList _ _ _ (⟨some 59, _, _, _, _, _⟩ :: _) _ _; go_must (refine wpList_string_bytes _ rfl (.tmp 58) 90 9 rfl 5 Tryz.underlying90 Tryz.underlying5 Tryz.underlying9 wr.heap.size 0 1 1 rfl [92] rfl (const_cell wr 5 92 92 rfl) ?_))
                go_roundw
                case rel => exact ⟨k + 1, by omega, by go_num, hall2.out, congrArg Value.string (ba_ext (by rw [append_str, append_str, hq92.out]; simp [str_list])), hK.alloc _⟩
                case measure => simp [intOf] <;> omega
            · have e1 : ((c.toNat : Int) == 34) = false := by rw [beq_eq_false_iff_ne]; omega
              have e2 : ((c.toNat : Int) == 92) = false := by rw [beq_eq_false_iff_ne]; omega
              have hq92 : Hid (quotedP (s.data.toList.take (k + 1)) = q ++ [c]) := Lib.hid (by have := HQN.out; rw [if_neg he] at this; exact this)
              clear he
              go_wp2_with fail
              go_roundw
              case rel => exact ⟨k + 1, by omega, by go_num, hall2.out, congrArg Value.string (ba_ext (by rw [append_str, hq92.out, str_list, str_list, str_list]; simp)), hK⟩
              case measure => simp [intOf] <;> omega
          · have HP : Hid (putV 2 s.data.toList = .tuple #[.string ⟨#[]⟩, .int .i64 3]) := Lib.hid (by
              have : s.data.toList.all seenB = false := by
                rw [List.all_eq_false]
                exact ⟨c, List.mem_of_getElem? HC.out, by unfold seenB; simp; omega⟩
              unfold putV putP_lexm; rw [if_neg (by decide), if_pos rfl, this]; rfl)
            have h4 : c.toNat < 32 ∨ 126 < c.toNat := by omega
            clear hsn hone
            rcases h4 with h4 | h4
            all_goals
              go_wp2_with fail
              go_ret2
              exact ⟨by rw [HP.out]; rfl, hK⟩
        · have HP : Hid (putV 2 s.data.toList = .tuple #[.string (str (34 :: (q ++ [34]))), .int .i64 0]) := Lib.hid (by
            have : s.data.toList.all seenB = true := by
              rw [List.all_eq_true]; intro d hd
              have := HA.out d
              rw [List.take_of_length_le (by omega)] at this
              exact this hd
            have hq : q = quotedP s.data.toList := by rw [HQ0.out, List.take_of_length_le (by omega)]
            unfold putV putP_lexm; rw [if_neg (by decide), if_pos rfl, if_pos this, hq])
          have z34 : (str [34]).size = 1 := rfl
          go_wp2_with (with_reducible show wpList _ _ _ (⟨some 70, _, _, _, _, _⟩ :: _) _ _; go_must (refine wpList_string_bytes _ rfl (.tmp 69) 90 9 rfl 5 Tryz.underlying90 Tryz.underlying5 Tryz.underlying9 wr.heap.size 0 1 1 rfl [34] rfl (const_cell wr 5 34 34 rfl) ?_))
          go_ret2
          exact ⟨by rw [HP.out]; exact congrArg (fun b => Ending.returned (.tuple #[.string b, .int .i64 0])) (ba_ext (by rw [append_str, str_list, str_list, str_list]; simp)), hK.alloc _⟩
    · have b1 : (kind == 1) = false := by simpa using h1
      by_cases h3 : 3 ≤ kind ∧ kind ≤ 5
      · have h35 : kind = 3 ∨ kind = 4 ∨ kind = 5 := by omega
        by_cases h0 : s.data.toList = []
        · obtain rfl : s = ⟨#[]⟩ := ba_ext h0
          clear h1 h2 h3 h0 b1 hl hs
          rcases h35 with rfl | rfl | rfl
          all_goals
            go_enter Tryz.func99, Tryz.ntmps99
            go_wp2_with fail
            go_ret2
            exact ⟨rfl, Keeps.refl _ _⟩
        · have hne := ne_nil h0
          have HP : Hid (putV kind s.data.toList = .tuple #[.string ⟨#[]⟩, .int .i64 3]) := Lib.hid (by unfold putV putP_lexm; rw [if_neg h1, if_neg h2, if_pos h3, if_neg h0]; rfl)
          clear h1 h2 h3 h0 b1
          rcases h35 with rfl | rfl | rfl
          all_goals
            go_enter Tryz.func99, Tryz.ntmps99
            go_wp2_with fail
            go_ret2
            exact ⟨by rw [HP.out]; rfl, Keeps.refl _ _⟩
      · have HP : Hid (putV kind s.data.toList = .tuple #[.string ⟨#[]⟩, .int .i64 1]) := Lib.hid (by unfold putV putP_lexm; rw [if_neg h1, if_neg h2, if_neg h3]; rfl)
        have h4 : kind < 1 ∨ 5 < kind := by omega
        clear h1 h2 h3
        rcases h4 with h4 | h4
        all_goals
          go_enter Tryz.func99, Tryz.ntmps99
          go_wp2_with fail
          go_ret2
          exact ⟨by rw [HP.out]; rfl, Keeps.refl _ _⟩
end Go.Proofs.YtfpajgmdejlaeaaGreatDoor
