/-
  store: which texts may be names; the document's word on it.
-/
import Derived.Test.YtfbdpmeelejdhaaQGround
import Derived.Test.YtfbdpmeelejdhaaQErr0
namespace Go.Proofs.Ytfbdpmeelejdhaa
open Go.RowKit Go.Maps

def okB (c : UInt8) : Bool := decide (33 ≤ c.toNat) && decide (c.toNat ≤ 126) && decide (c.toNat ≠ 47)
def namedP (s : ByteArray) : Bool := decide (1 ≤ s.size) && decide (s.size ≤ 64) && s.data.toList.all okB
theorem namedP_size {s : ByteArray} (h : namedP s = true) : 1 ≤ s.size ∧ s.size ≤ 64 := by
  unfold namedP at h
  simp only [Bool.and_eq_true, decide_eq_true_eq] at h
  exact ⟨h.1.1, h.1.2⟩
theorem namedP_bad {s : ByteArray} {i : Nat} {c : UInt8} (h : s.data.toList[i]? = some c) (hc : okB c = false) : namedP s = false := by
  unfold namedP
  have : s.data.toList.all okB = false := by
    rw [List.all_eq_false]
    exact ⟨c, List.mem_of_getElem? h, by rw [hc]; simp⟩
  rw [this, Bool.and_false]
theorem namedP_out {s : ByteArray} (h : s.size < 1 ∨ 64 < s.size) : namedP s = false := by
  unfold namedP
  rcases h with h | h
  · rw [decide_eq_false (by omega : ¬ 1 ≤ s.size), Bool.false_and, Bool.false_and]
  · rw [decide_eq_false (by omega : ¬ s.size ≤ 64), Bool.and_false, Bool.false_and]
theorem namedP_ok {s : ByteArray} (h1 : 1 ≤ s.size) (h2 : s.size ≤ 64) (h : s.data.toList.all okB = true) : namedP s = true := by
  unfold namedP
  rw [decide_eq_true h1, decide_eq_true h2, h]; rfl
theorem take_snoc2 {α : Type} {l : List α} {k : Nat} {x : α} (h : l[k]? = some x) : l.take (k + 1) = l.take k ++ [x] := by rw [List.take_add_one, h]; rfl
theorem byte_at {s : ByteArray} {i : Nat} (h : i < s.size) : s.data.toList[i]? = some (s[i]'h) := List.getElem?_eq_getElem (by simpa using h)
theorem all_take {s : ByteArray} {i : Nat} (h : i < s.size) (f : UInt8 → Bool) : (s.data.toList.take (i + 1)).all f = ((s.data.toList.take i).all f && f (s[i]'h)) := by
  rw [take_snoc2 (byte_at h), List.all_append]; simp

set_option maxRecDepth 100000 in
set_option maxHeartbeats 1000000 in
theorem named_any (w : World) (s : ByteArray) : Calls Try.prog 50 #[.string s] w fun e w' => e = .returned (.bool (namedP s)) ∧ w' = w := by
  by_cases h0 : s.size = 0
  · have hn := namedP_out (s := s) (.inl (by omega))
    have hs : s = ⟨#[]⟩ := by
      apply ba_ext
      exact List.eq_nil_of_length_eq_zero (by simpa using h0)
    subst hs
    have HN := Lib.hid hn
    clear hn h0
    go_enter Try.func50, Try.ntmps50
    go_wp2_with fail
    go_ret
    exact ⟨by rw [HN.out]; rfl, rfl⟩
  · have hne : s.toList.isEmpty = false := by
      rw [ByteArray.toList_eq]
      cases hh : s.data.toList with
      | nil =>
        have : s.data.toList.length = s.size := by simp
        rw [hh] at this
        exact absurd this.symm h0
      | cons x y => rfl
    by_cases h64 : 64 < s.size
    · have hn := namedP_out (s := s) (.inr h64)
      have HN := Lib.hid hn
      clear hn
      go_enter Try.func50, Try.ntmps50
      go_wp2_with fail
      go_ret
      exact ⟨by rw [HN.out]; rfl, rfl⟩
    · go_enter Try.func50, Try.ntmps50
      go_wp2_with fail
      go_loopw [13] (fun u13 wr => w = wr ∧ ∃ i : Nat, u13 = .int .i64 i ∧ Hid (i ≤ s.size ∧ (s.data.toList.take i).all okB = true)) (fun u13 _ => s.size - (intOf u13).toNat)
      case atStart => exact ⟨rfl, 0, rfl, Lib.hid ⟨Nat.zero_le _, by simp⟩⟩
      case round =>
        obtain ⟨rfl, i, rfl, HI⟩ := hrel
        by_cases hi : i < s.size
        · have hx8 := (s[i]'hi).toNat_lt
          by_cases hc : okB (s[i]'hi) = true
          · have hall : (s.data.toList.take (i + 1)).all okB = true := by rw [all_take hi, HI.out.2, hc]; rfl
            have HA := Lib.hid hall
            simp only [okB, Bool.and_eq_true, decide_eq_true_eq] at hc
            obtain ⟨⟨b1, b2⟩, b3⟩ := hc
            obtain ⟨x, hx⟩ : ∃ x : Nat, (s[i]'hi).toNat = x := ⟨_, rfl⟩
            rw [hx] at b1 b2 b3 hx8
            have b4 : ((x : Int) == 47) = false := by rw [beq_eq_false_iff_ne]; omega
            clear hall b3
            go_wp2_with fail
            go_roundw
            case rel => exact ⟨trivial, i + 1, by go_num, Lib.hid ⟨by omega, HA.out⟩⟩
            case measure => simp [intOf]; omega
          · have hn := namedP_bad (byte_at hi) (by simpa using hc)
            have HN := Lib.hid hn
            clear hn
            obtain ⟨x, hx⟩ : ∃ x : Nat, (s[i]'hi).toNat = x := ⟨_, rfl⟩
            unfold okB at hc
            rw [hx] at hc hx8
            by_cases b1 : 33 ≤ x
            · by_cases b2 : x ≤ 126
              · have b3 : x = 47 := by
                  by_cases b3 : x = 47
                  · exact b3
                  · exact absurd (by simp [b1, b2, b3]) hc
                subst b3
                clear hc
                go_wp2_with fail
                go_ret
                exact ⟨by rw [HN.out]; rfl, rfl⟩
              · clear hc
                go_wp2_with fail
                go_ret
                exact ⟨by rw [HN.out]; rfl, rfl⟩
            · clear hc
              go_wp2_with fail
              go_ret
              exact ⟨by rw [HN.out]; rfl, rfl⟩
        · have hn : namedP s = true := namedP_ok (by omega) (by omega) (by
            have := HI.out.2
            rwa [List.take_of_length_le (by simp; omega)] at this)
          have HN := Lib.hid hn
          clear hn
          go_wp2_with fail
          go_ret
          exact ⟨by rw [HN.out]; rfl, rfl⟩

theorem all_false {s : ByteArray} {i : Nat} (h : i < s.size) {f : UInt8 → Bool} (hc : (s.data.toList.take i).all f = false) : (s.data.toList.take (i + 1)).all f = false := by rw [all_take h, hc, Bool.false_and]
def okUp (s : ByteArray) (i : Nat) : Bool := decide (1 ≤ s.size) && decide (s.size ≤ 64) && (s.data.toList.take i).all okB
theorem okUp_end (s : ByteArray) : okUp s s.size = namedP s := by unfold okUp namedP; rw [List.take_of_length_le (by simp)]
theorem okUp_step {s : ByteArray} {i : Nat} (h : i < s.size) : okUp s (i + 1) = (okUp s i && okB (s[i]'h)) := by unfold okUp; rw [all_take h, Bool.and_assoc, Bool.and_assoc, Bool.and_assoc]

end Go.Proofs.Ytfbdpmeelejdhaa
