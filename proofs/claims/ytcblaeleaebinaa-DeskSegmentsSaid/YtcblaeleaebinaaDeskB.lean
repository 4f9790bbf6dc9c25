/-
  The desk: fit, take.
-/
import Derived.Test.YtcblaeleaebinaaDeskA
namespace Go.Proofs.Ytcblaeleaebinaa
open Go.RowKit

set_option maxRecDepth 100000 in
set_option maxHeartbeats 2000000 in
/-- how many bytes have room: one at least, and no more than have room, but for the first -/
theorem fit_any (w : World) (s : ByteArray) (n : Int) (hs : s.size ≤ 1073741824) (hn : 1 ≤ n) :
    Calls Try.prog 54 #[.string s, .int .i64 n] w fun e w' => ∃ k : Nat, e = .returned (.int .i64 k) ∧ k ≤ s.size ∧ (1 ≤ s.size → 1 ≤ k) ∧ (((dblP (s.data.toList.take k)).length : Int) ≤ n ∨ k ≤ 1) ∧ Keeps (fun _ => False) w w' := by
  have hl : s.data.toList.length = s.size := by simp
  go_enter Try.func54, Try.ntmps54
  go_wp2_with fail
  go_loopw [5, 9] (fun u5 u9 wr => ∃ k : Nat, k ≤ s.size ∧ u9 = .int .i64 k ∧ u5 = .int .i64 (dblP (s.data.toList.take k)).length ∧ (((dblP (s.data.toList.take k)).length : Int) ≤ n ∨ k ≤ 1) ∧ Keeps (fun _ => False) w wr) (fun _ u9 _ => s.size - (intOf u9).toNat)
  case atStart => exact ⟨0, Nat.zero_le _, rfl, rfl, .inr (by omega), Keeps.refl _ _⟩
  case round =>
    obtain ⟨k, hk, rfl, rfl, hor, hK⟩ := hrel
    have hdk := dblP_len (s.data.toList.take k)
    have htl : (s.data.toList.take k).length ≤ s.size := by simp; omega
    by_cases hp : k < s.size
    · obtain ⟨c, hc⟩ : ∃ c, s.data.toList[k]? = some c := ⟨_, List.getElem?_eq_getElem (by omega)⟩
      have htk : s.data.toList.take (k + 1) = s.data.toList.take k ++ [c] := by rw [List.take_add_one, hc]; rfl
      have hex : (s.extract k (k + 1)).data.toList = [c] := by
        simp only [ByteArray.data_extract, Array.toList_extract, List.extract_eq_take_drop]
        rw [List.drop_eq_getElem_cons (by omega), (List.getElem?_eq_some_iff.1 hc).2, Nat.add_sub_cancel_left]
        rfl
      have hcost := fun w => cost_any w (s.extract k (k + 1)) (by simp; omega)
      rw [hex] at hcost
      obtain ⟨one, hone⟩ : ∃ one, one = (dblP [c]).length := ⟨_, rfl⟩
      obtain ⟨all, hall⟩ : ∃ all, all = (dblP (s.data.toList.take k)).length := ⟨_, rfl⟩
      have hone2 : one ≤ 2 := by rw [hone]; exact dblP_len [c]
      have hsum : (dblP (s.data.toList.take (k + 1))).length = all + one := by rw [htk, dblP_app, List.length_append, hone, hall]
      rw [← hone] at hcost
      rw [← hall] at hdk hor ⊢
      have HC := Lib.hid hcost
      have HS := Lib.hid hsum
      have HOR := Lib.hid hor
      have HALL := Lib.hid hall
      clear hc htk hex hcost hone hall hsum hor
      by_cases hk0 : 0 < k
      · by_cases han : n < (all : Int) + one
        · go_wp2_with (go_at_call 35; go_must (refine (HC.out _).mono ?_; rintro e w2 ⟨rfl, k2⟩))
          go_ret
          refine ⟨k, rfl, by omega, fun _ => by omega, ?_, hK.trans k2⟩
          rw [← HALL.out]
          rcases HOR.out with h | h
          · exact .inl (by omega)
          · exact .inr h
        · go_wp2_with (go_at_call 35; go_must (refine (HC.out _).mono ?_; rintro e w2 ⟨rfl, k2⟩))
          go_roundw
          case rel => exact ⟨k + 1, by omega, by go_num, by rw [HS.out]; rfl, .inl (by rw [HS.out]; omega), hK.trans k2⟩
          case measure => simp [intOf] <;> omega
      · obtain rfl : k = 0 := by omega
        go_wp2_with (go_at_call 35; go_must (refine (HC.out _).mono ?_; rintro e w2 ⟨rfl, k2⟩))
        go_roundw
        case rel => exact ⟨1, by omega, rfl, by rw [HS.out]; rfl, .inr (by omega), hK.trans k2⟩
        case measure => simp [intOf] <;> omega
    · have hk2 : k = s.size := by omega
      subst hk2
      have HOR := Lib.hid hor
      clear hor
      go_wp2_with fail
      go_ret
      exact ⟨s.size, rfl, by omega, fun h => h, HOR.out, hK⟩

theorem str_ext0 (l : List UInt8) (k : Nat) : (str l).extract 0 k = str (l.take k) := by
  apply ba_ext
  simp [str]
theorem str_ext1 (l : List UInt8) (k : Nat) : (str l).extract k (str l).size = str (l.drop k) := by
  apply ba_ext
  rw [ext_list]; rfl

set_option maxRecDepth 100000 in
/-- the first bytes of what is begun; the rest stays -/
theorem take_any (w : World) (d : Nat) (t : TypeId) (cs : List Value) (bg : List UInt8) (n : Int) (hb : Blk w d t ((Value.string (str bg) :: cs).toArray)) (hn : 0 ≤ n) (hl : bg.length ≤ 4611686018427387904) :
    Calls Try.prog 39 #[.pointer (some ⟨d, 0, none⟩), .int .i64 n] w fun e w' => e = .returned (.string (str (bg.take n.toNat))) ∧ Blk w' d t ((Value.string (str (bg.drop n.toNat)) :: cs).toArray) ∧ Keeps (fun i => i = d) w w' := by
  have c0 := hb.cell 0
  have f0 := hb.frozen 0
  simp at c0
  have hs := str_size bg
  have hlt := hb.lt
  have HB := Lib.hid hb
  clear hb
  have e1 : (str bg).extract 0 (min n (bg.length : Int)).toNat = str (bg.take n.toNat) := by
    rw [str_ext0]
    congr 1
    rcases Int.le_total n bg.length with h | h
    · rw [Int.min_eq_left h]
    · rw [Int.min_eq_right h, List.take_of_length_le (by omega), List.take_of_length_le (by omega)]
  have e2 : (str bg).extract (min (min n (bg.length : Int)).toNat bg.length) bg.length = str (bg.drop n.toNat) := by
    have := str_ext1 bg (min (min n (bg.length : Int)).toNat bg.length)
    rw [hs] at this
    rw [this]
    congr 1
    rcases Int.le_total n bg.length with h | h
    · rw [Int.min_eq_left h, Nat.min_eq_left (by omega)]
    · rw [Int.min_eq_right h, List.drop_eq_nil_of_le (by omega), List.drop_eq_nil_of_le (by omega)]
  have E1 := Lib.hid e1
  have E2 := Lib.hid e2
  clear e1 e2
  go_enter Try.func39, Try.ntmps39
  go_wp2_with fail
  go_quiet (fail)
  go_wp2
  go_ret
  refine ⟨by rw [← E1.out]; rfl, ?_, ((Keeps.refl (fun i => i = d) w).drewN nq).setCell (p := ⟨d, 0, none⟩) (fun _ => rfl) _⟩
  rw [E2.out]
  have := (HB.out.drewN nq).set_ 0 (.string (str (bg.drop n.toNat)))
  simpa using this
end Go.Proofs.Ytcblaeleaebinaa
