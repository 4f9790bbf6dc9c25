/-
  Sizes, the document's and board's.
-/
import Derived.Test.YtgpfmkkkpdpdfaaDoorBrdB
namespace Go.Proofs.YtgpfmkkkpdpdfaaDoor
open Go.RowKit

/-- in the largest unit of which there are at least ten -/
def sizeP (n : Int) : ByteArray :=
  if n < 0 then ⟨#[48]⟩ else if n < 10240 then str (dec n) else if n / 1024 < 10240 then str (dec (n / 1024) ++ [75]) else if n / 1048576 < 10240 then str (dec (n / 1048576) ++ [77]) else str (dec (n / 1073741824) ++ [71])
theorem str_catB (a b : List UInt8) : str a ++ str b = str (a ++ b) := by apply ba_ext; simp [str]
theorem dec_size (n : Int) (h1 : -9223372036854775808 ≤ n) (h2 : n ≤ 9223372036854775807) : (str (dec n)).size ≤ 20 := by rw [str_size]; exact dec_le h1 h2

set_option maxRecDepth 100000 in
set_option maxHeartbeats 1000000 in
theorem rsize34 (w : World) (n : Int) (h1 : -9223372036854775808 ≤ n) (h2 : n ≤ 9223372036854775807) :
    Calls Tryd.prog 30 #[.int .i64 n] w fun e w' => e = .returned (.string (sizeP n)) ∧ Keeps (fun _ => False) w w' := by
  by_cases hn : n < 0
  · have hs : sizeP n = ⟨#[48]⟩ := by unfold sizeP; rw [if_pos hn]
    have HS := Lib.hid hs
    clear hs
    go_enter Tryd.func30, Tryd.ntmps30
    go_wp2_with fail
    go_ret
    exact ⟨by rw [HS.out]; rfl, Keeps.refl _ _⟩
  · obtain ⟨N, rfl⟩ := Int.eq_ofNat_of_zero_le (show 0 ≤ n by omega)
    obtain ⟨A, hA⟩ : ∃ A : Nat, A = N / 1024 := ⟨_, rfl⟩
    obtain ⟨B, hB⟩ : ∃ B : Nat, B = N / 1048576 := ⟨_, rfl⟩
    obtain ⟨C, hC⟩ : ∃ C : Nat, C = N / 1073741824 := ⟨_, rfl⟩
    have t1 : (N : Int).tdiv 1024 = (A : Int) := by rw [hA]; rfl
    have t2 : (N : Int).tdiv 1048576 = (B : Int) := by rw [hB]; rfl
    have t3 : (N : Int).tdiv 1073741824 = (C : Int) := by rw [hC]; rfl
    by_cases h3 : (N : Int) < 10240
    · have hs : sizeP N = str (dec N) := by unfold sizeP; rw [if_neg hn, if_pos h3]
      have HS := Lib.hid hs
      have HP := Lib.hid (rput_any _ w (N : Int) (Nat.le_refl _) h1 h2)
      clear hs t1 t2 t3 hA hB hC
      go_enter Tryd.func30, Tryd.ntmps30
      go_wp2_with fail
      refine HP.out.mono ?_
      rintro e w' ⟨rfl, k⟩
      go_wp2_with fail
      go_ret
      exact ⟨by rw [HS.out]; rfl, k⟩
    · by_cases h4 : (A : Int) < 10240
      · have hs : sizeP N = str (dec (A : Int)) ++ ⟨#[75]⟩ := by
          unfold sizeP; rw [if_neg hn, if_neg h3, if_pos (by omega), ← str_catB, hA]; rfl
        obtain ⟨V, hV⟩ : ∃ V, V = str (dec (A : Int)) := ⟨_, rfl⟩
        have hz : V.size ≤ 20 := by rw [hV]; exact dec_size (A : Int) (by omega) (by omega)
        have HP := Lib.hid (rput_any _ w (A : Int) (Nat.le_refl _) (by omega) (by omega))
        rw [← hV] at hs HP
        have HS := Lib.hid hs
        have b1 : (A : Int) ≤ 9223372036854775807 := by omega
        have b2 : (B : Int) ≤ 9223372036854775807 := by omega
        have b3 : (C : Int) ≤ 9223372036854775807 := by omega
        clear hs hV hA hB hC
        go_enter Tryd.func30, Tryd.ntmps30
        go_wp2_with fail
        refine HP.out.mono ?_
        rintro e w' ⟨rfl, k⟩
        clear t1 t2 t3
        go_wp2_with fail
        go_ret
        exact ⟨by rw [HS.out]; rfl, k⟩
      · by_cases h5 : (B : Int) < 10240
        · have hs : sizeP N = str (dec (B : Int)) ++ ⟨#[77]⟩ := by
            unfold sizeP; rw [if_neg hn, if_neg h3, if_neg (by omega), if_pos (by omega), ← str_catB, hB]; rfl
          obtain ⟨V, hV⟩ : ∃ V, V = str (dec (B : Int)) := ⟨_, rfl⟩
          have hz : V.size ≤ 20 := by rw [hV]; exact dec_size (B : Int) (by omega) (by omega)
          have HP := Lib.hid (rput_any _ w (B : Int) (Nat.le_refl _) (by omega) (by omega))
          rw [← hV] at hs HP
          have HS := Lib.hid hs
          have b1 : (A : Int) ≤ 9223372036854775807 := by omega
          have b2 : (B : Int) ≤ 9223372036854775807 := by omega
          have b3 : (C : Int) ≤ 9223372036854775807 := by omega
          clear hs hV hA hB hC
          go_enter Tryd.func30, Tryd.ntmps30
          go_wp2_with fail
          refine HP.out.mono ?_
          rintro e w' ⟨rfl, k⟩
          clear t1 t2 t3
          go_wp2_with fail
          go_ret
          exact ⟨by rw [HS.out]; rfl, k⟩
        · have hs : sizeP N = str (dec (C : Int)) ++ ⟨#[71]⟩ := by
            unfold sizeP; rw [if_neg hn, if_neg h3, if_neg (by omega), if_neg (by omega), ← str_catB, hC]; rfl
          obtain ⟨V, hV⟩ : ∃ V, V = str (dec (C : Int)) := ⟨_, rfl⟩
          have hz : V.size ≤ 20 := by rw [hV]; exact dec_size (C : Int) (by omega) (by omega)
          have HP := Lib.hid (rput_any _ w (C : Int) (Nat.le_refl _) (by omega) (by omega))
          rw [← hV] at hs HP
          have HS := Lib.hid hs
          have b1 : (A : Int) ≤ 9223372036854775807 := by omega
          have b2 : (B : Int) ≤ 9223372036854775807 := by omega
          have b3 : (C : Int) ≤ 9223372036854775807 := by omega
          clear hs hV hA hB hC
          go_enter Tryd.func30, Tryd.ntmps30
          go_wp2_with fail
          refine HP.out.mono ?_
          rintro e w' ⟨rfl, k⟩
          clear t1 t2 t3
          go_wp2_with fail
          go_ret
          exact ⟨by rw [HS.out]; rfl, k⟩
end Go.Proofs.YtgpfmkkkpdpdfaaDoor
