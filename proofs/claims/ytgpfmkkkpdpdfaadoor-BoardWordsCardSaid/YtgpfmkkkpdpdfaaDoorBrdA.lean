/-
  board's words, and the document's.
-/
import Derived.Test.YtgpfmkkkpdpdfaaDoorDigA
import Derived.Test.YtgpfmkkkpdpdfaaDoorArgs
namespace Go.Proofs.YtgpfmkkkpdpdfaaDoor
open Go.RowKit

/-- one of some words, or a question mark -/
def wordP (n : Int) (l : List ByteArray) : ByteArray := if n < 0 then ⟨#[63]⟩ else (l[n.toNat]?).getD ⟨#[63]⟩
theorem wordP_in {n : Nat} {l : List ByteArray} {s : ByteArray} (h : l[n]? = some s) : wordP n l = s := by
  unfold wordP
  rw [if_neg (by omega), Int.toNat_natCast, h]; rfl
theorem wordP_out {n : Int} {l : List ByteArray} (h : n < 0 ∨ (l.length : Int) ≤ n) : wordP n l = ⟨#[63]⟩ := by
  unfold wordP
  by_cases h0 : n < 0
  · rw [if_pos h0]
  · rw [if_neg h0, List.getElem?_eq_none (by omega)]; rfl

set_option maxRecDepth 100000 in
theorem word_any (w : World) (n : Int) (a : Option Addr) (m cap : Nat) (l : List ByteArray) (hl : SlAt strR 1 w a m l) (hm : m ≤ 4611686018427387904) :
    Calls Tryd.prog 67 #[.int .i64 n, .slice a m cap] w (Qt (.string (wordP n l)) w) := by
  have hln := hl.1
  by_cases h0 : n < 0
  · have hw := wordP_out (n := n) (l := l) (.inl h0)
    have HW := Lib.hid hw
    clear hl hln hw
    go_enter Tryd.func67, Tryd.ntmps67
    go_wp2_with fail
    go_ret
    exact Qt.of0 (by rw [HW.out]; rfl)
  · obtain ⟨k, rfl⟩ := Int.eq_ofNat_of_zero_le (show 0 ≤ n by omega)
    by_cases hk : k < m
    · obtain ⟨s, hs⟩ : ∃ s, l[k]? = some s := ⟨_, List.getElem?_eq_getElem (by omega)⟩
      obtain ⟨b2, off, rfl, hb2, hc⟩ := hl.2 (by omega)
      have hcell := SlAt.str hc k s hs
      have hw := wordP_in hs
      have HW := Lib.hid hw
      clear hl hln hw hs hc
      go_enter Tryd.func67, Tryd.ntmps67
      go_wp2_with fail
      go_ret
      exact Qt.of0 (by rw [HW.out]; rfl)
    · have hw := wordP_out (n := (k : Int)) (l := l) (.inr (by omega))
      have HW := Lib.hid hw
      clear hl hln hw
      go_enter Tryd.func67, Tryd.ntmps67
      go_wp2_with fail
      go_ret
      exact Qt.of0 (by rw [HW.out]; rfl)

set_option maxRecDepth 100000 in
theorem rword_any (w : World) (n : Int) (a : Option Addr) (m cap : Nat) (l : List ByteArray) (hl : SlAt strR 1 w a m l) (hm : m ≤ 1073741824) :
    Calls Tryd.prog 25 #[.int .i64 n, .slice a m cap] w fun e w' => e = .returned (.string (wordP n l)) ∧ w = w' := by
  have HLN := Lib.hid hl.1
  have HSL := Lib.hid hl
  clear hl
  go_enter Tryd.func25, Tryd.ntmps25
  go_wp2_with fail
  go_loopw [5] (fun u5 wr => w = wr ∧ ∃ i : Nat, u5 = .int .i64 i ∧ Hid (i ≤ m ∧ ∀ j : Nat, j < i → (j : Int) ≠ n)) (fun u5 _ => m - (intOf u5).toNat)
  case atStart => exact ⟨rfl, 0, rfl, Lib.hid ⟨Nat.zero_le _, fun j h => absurd h (by omega)⟩⟩
  case round =>
    obtain ⟨rfl, i, rfl, HI⟩ := hrel
    by_cases hi : i < m
    · by_cases hin : (i : Int) = n
      · subst hin
        obtain ⟨s, hs⟩ : ∃ s, l[i]? = some s := ⟨_, List.getElem?_eq_getElem (by have := HLN.out; omega)⟩
        obtain ⟨b2, off, rfl, hb2, hc⟩ := HSL.out.2 (by omega)
        have hcell := SlAt.str hc i s hs
        have hw := wordP_in hs
        have HW := Lib.hid hw
        clear hw hs hc
        go_wp2_with fail
        go_ret
        exact ⟨by rw [HW.out]; rfl, rfl⟩
      · have hin2 : ((i : Int) == n) = false := by rw [beq_eq_false_iff_ne]; exact hin
        have HIN := Lib.hid hin
        clear hin
        go_wp2_with fail
        go_roundw
        case rel => exact ⟨trivial, i + 1, by go_num, Lib.hid ⟨by omega, fun j hj => by
          by_cases hji : j = i
          · subst hji; exact HIN.out
          · exact HI.out.2 j (by omega)⟩⟩
        case measure => simp [intOf]; omega
    · have hw : wordP n l = ⟨#[63]⟩ := by
        refine wordP_out ?_
        by_cases h0 : n < 0
        · exact .inl h0
        · right
          obtain ⟨k, rfl⟩ := Int.eq_ofNat_of_zero_le (show 0 ≤ n by omega)
          have h1 := HLN.out
          rcases Nat.lt_or_ge k m with h2 | h2
          · exact absurd rfl (HI.out.2 k (by omega))
          · omega
      have HW := Lib.hid hw
      clear hw
      go_wp2_with fail
      go_ret
      exact ⟨by rw [HW.out]; rfl, rfl⟩

theorem yes_any (w : World) (is : Bool) (s : ByteArray) : Calls Tryd.prog 31 #[.bool is, .string s] w (Qt (.string (if is then s else ⟨#[45]⟩)) w) := by
  cases is
  · go_enter Tryd.func31, Tryd.ntmps31
    go_wp2_with fail
    go_ret
    exact Qt.of0 rfl
  · go_enter Tryd.func31, Tryd.ntmps31
    go_wp2_with fail
    go_ret
    exact Qt.of0 rfl
end Go.Proofs.YtgpfmkkkpdpdfaaDoor
