/-
  lex: which bytes and texts may be words; a piece as text; the program's and the document's.
-/
import Derived.Test.YtemjbblehiaobaaDoorChecked
import Derived.Test.YtemjbblehiaobaaDoorLexM
import Derived.Test.YtemjbblehiaobaaDoorOwn
import Derived.Lib.OthersKept
namespace Go.Proofs.YtemjbblehiaobaaDoor
open Go.RowKit

theorem append_str (a b : ByteArray) : (a ++ b).data.toList = a.data.toList ++ b.data.toList := by simp
theorem ne_nil {s : ByteArray} (h : s.data.toList ≠ []) : s.toList.isEmpty = false := by
  rw [ByteArray.toList_eq]
  cases hh : s.data.toList with
  | nil => exact absurd hh h
  | cons x y => rfl

set_option maxRecDepth 100000 in
theorem plain_any (w : World) (n : Nat) (hn : n < 256) : Calls Tryd.prog 37 #[.int .u8 n] w fun e w' => e = .returned (.bool (plainN n)) ∧ w' = w := by
  by_cases h : n = 123 ∨ n = 125 ∨ n = 59 ∨ n = 34 ∨ n = 35 ∨ n = 92
  · have hp : plainN n = false := by unfold plainN; simp [h]
    rcases h with rfl | rfl | rfl | rfl | rfl | rfl
    all_goals
      go_enter Tryd.func37, Tryd.ntmps37
      go_wp2
      go_ret
      exact ⟨by rw [hp]; rfl, rfl⟩
  · have h1 : ((n : Int) == 123) = false := by rw [beq_eq_false_iff_ne]; omega
    have h2 : ((n : Int) == 125) = false := by rw [beq_eq_false_iff_ne]; omega
    have h3 : ((n : Int) == 59) = false := by rw [beq_eq_false_iff_ne]; omega
    have h4 : ((n : Int) == 34) = false := by rw [beq_eq_false_iff_ne]; omega
    have h5 : ((n : Int) == 35) = false := by rw [beq_eq_false_iff_ne]; omega
    have h6 : ((n : Int) == 92) = false := by rw [beq_eq_false_iff_ne]; omega
    have hp : plainN n = (decide (32 < n) && decide (n ≤ 126)) := by unfold plainN; simp [h]
    by_cases a : 32 < n
    · by_cases b : n ≤ 126
      · have HP : Hid (plainN n = true) := Lib.hid (by rw [hp]; simp [a, b])
        clear hp h
        go_enter Tryd.func37, Tryd.ntmps37
        go_wp2
        go_ret
        exact ⟨by rw [HP.out]; simp <;> omega, rfl⟩
      · have HP : Hid (plainN n = false) := Lib.hid (by rw [hp]; simp [b])
        clear hp h
        go_enter Tryd.func37, Tryd.ntmps37
        go_wp2
        go_ret
        exact ⟨by rw [HP.out]; simp <;> omega, rfl⟩
    · have HP : Hid (plainN n = false) := Lib.hid (by rw [hp]; simp [a])
      clear hp h
      go_enter Tryd.func37, Tryd.ntmps37
      go_wp2
      go_ret
      exact ⟨by rw [HP.out]; simp <;> omega, rfl⟩

theorem blank_any (w : World) (c : UInt8) : Calls Tryd.prog 34 #[.int .u8 c.toNat] w fun e w' => e = .returned (.bool (blankB c)) ∧ w' = w := by
  have HB : Hid (blankB c = (((c.toNat : Int) == 32) || ((c.toNat : Int) == 9) || ((c.toNat : Int) == 13) || ((c.toNat : Int) == 10))) := Lib.hid (by
    unfold blankB; rw [Bool.eq_iff_iff]; simp; omega)
  go_enter Tryd.func34, Tryd.ntmps34
  go_wp2
  all_goals go_ret
  all_goals exact ⟨by rw [HB.out]; simp_all, rfl⟩

set_option maxRecDepth 100000 in
theorem wordy_any (w : World) (s : ByteArray) (hs : s.size ≤ 17179869184) : Calls Tryd.prog 50 #[.string s] w fun e w' => e = .returned (.bool (wordyP s.data.toList)) ∧ Keeps (fun _ => False) w w' := by
  have hl : s.data.toList.length = s.size := by simp
  go_enter Tryd.func50, Tryd.ntmps50
  go_wp2_with fail
  go_loopw [4] (fun _ wr => ∃ pos, pos ≤ s.size ∧ wr = w.iter s pos ∧ ∀ c ∈ s.data.toList.take pos, plainB c = true) (fun _ wr => s.size - wr.iterPos w.heap.size)
  case atStart => exact ⟨0, Nat.zero_le _, rfl, by simp⟩
  case round =>
    obtain ⟨pos, hpos, rfl, hall⟩ := hrel
    have HA := Lib.hid hall
    clear hall
    by_cases hp : pos < s.size
    · obtain ⟨c, hc⟩ : ∃ c, s.data.toList[pos]? = some c := ⟨_, List.getElem?_eq_getElem (by omega)⟩
      have hsc : s[pos] = c := by
        have := (List.getElem?_eq_some_iff.1 hc).2
        rw [← this]; rfl
      have HC := Lib.hid hc
      clear hc
      by_cases ha : c.toNat < 128
      · have hnx : ∀ ty, (Instr.next (.pointer (some ⟨w.heap.size, 0, none⟩)) true ty).run Tryd.prog (w.iter s pos) = _ := fun ty => run_next_ascii w s pos ty hp (by rw [hsc]; exact ha)
        rw [hsc] at hnx
        have hcl := UInt8.toNat_lt c
        by_cases hpl : plainB c = true
        · have h126 : c.toNat ≤ 126 := by unfold plainB plainN at hpl; simp at hpl; omega
          have hq := fun w => plain_any w c.toNat (by omega)
          rw [show plainN c.toNat = true from hpl] at hq
          have HQ := Lib.hid hq
          have HPL := Lib.hid hpl
          clear hq hpl hsc
          go_wp2_with (go_at_call 37; go_must (refine (HQ.out _).mono ?_; rintro e w2 ⟨rfl, rfl⟩))
          go_roundw
          case rel =>
            refine ⟨pos + 1, by omega, rfl, ?_⟩
            intro d hd
            rw [List.take_add_one, HC.out] at hd
            rcases List.mem_append.1 hd with hd | hd
            · exact HA.out d hd
            · rw [Option.toList_some, List.mem_singleton] at hd; subst hd; exact HPL.out
          case measure => simp <;> omega
        · have hpf : plainB c = false := by simpa using hpl
          have hend : Hid (wordyP s.data.toList = false) := Lib.hid (by
            unfold wordyP; rw [Bool.and_eq_false_iff]; right
            rw [List.all_eq_false]; exact ⟨c, List.mem_of_getElem? HC.out, by simp [hpf]⟩)
          by_cases h126 : 126 < c.toNat
          · clear hpl hpf hsc
            go_wp2_with fail
            go_ret
            exact ⟨by rw [hend.out]; rfl, (Keeps.refl _ _).alloc _⟩
          · have hq := fun w => plain_any w c.toNat (by omega)
            rw [show plainN c.toNat = false from hpf] at hq
            have HQ := Lib.hid hq
            have h126' : c.toNat ≤ 126 := by omega
            clear hq hpl hpf hsc
            go_wp2_with (go_at_call 37; go_must (refine (HQ.out _).mono ?_; rintro e w2 ⟨rfl, rfl⟩))
            go_ret
            exact ⟨by rw [hend.out]; rfl, (Keeps.refl _ _).alloc _⟩
      · have hnx : ∀ ty, (Instr.next (.pointer (some ⟨w.heap.size, 0, none⟩)) true ty).run Tryd.prog (w.iter s pos) = _ := fun ty => run_next_any w s pos ty hp
        have hhi := (decode_high s pos hp (by rw [hsc]; omega)).1
        have hpf : plainB c = false := by unfold plainB plainN; simp; omega
        have hend : Hid (wordyP s.data.toList = false) := Lib.hid (by
          unfold wordyP; rw [Bool.and_eq_false_iff]; right
          rw [List.all_eq_false]; exact ⟨c, List.mem_of_getElem? HC.out, by simp [hpf]⟩)
        obtain ⟨r, hr⟩ : ∃ r, (Utf8.decode s pos).1 = r := ⟨_, rfl⟩
        rw [hr] at hhi
        simp only [hr] at hnx
        clear hr hpf hsc
        go_wp2_with fail
        go_ret
        exact ⟨by rw [hend.out]; rfl, (Keeps.refl _ _).alloc _⟩
    · have hnx : ∀ ty, (Instr.next (.pointer (some ⟨w.heap.size, 0, none⟩)) true ty).run Tryd.prog (w.iter s pos) = _ := fun ty => run_next_end w s pos ty hp
      have hall : s.data.toList.all plainB = true := by
        rw [List.all_eq_true]; intro d hd
        have := HA.out d
        rw [List.take_of_length_le (by omega)] at this
        exact this hd
      have HW : Hid (wordyP s.data.toList = decide (s.data.toList ≠ [])) := Lib.hid (by unfold wordyP; rw [hall, Bool.and_true])
      clear hall
      by_cases h0 : s.data.toList = []
      · obtain rfl : s = ⟨#[]⟩ := ba_ext h0
        go_wp2_with fail
        go_ret
        exact ⟨by rw [HW.out]; rfl, (Keeps.refl _ _).alloc _⟩
      · have h1 := ne_nil h0
        have HD : Hid (decide (s.data.toList ≠ []) = true) := Lib.hid (by simp only [decide_eq_true_eq]; exact h0)
        clear h0
        go_wp2_with fail
        go_ret
        exact ⟨by rw [HW.out, HD.out]; rfl, (Keeps.refl _ _).alloc _⟩
end Go.Proofs.YtemjbblehiaobaaDoor
