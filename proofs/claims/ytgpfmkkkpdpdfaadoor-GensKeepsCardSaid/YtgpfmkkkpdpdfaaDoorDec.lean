/-
  Numbers in decimal, as lists of bytes. No program in sight.
-/
import Derived.Test.YtgpfmkkkpdpdfaaDoorBase
namespace Go.Proofs.YtgpfmkkkpdpdfaaDoor
open Go.RowKit

/-- a digit's sign -/
def digc (n : Nat) : UInt8 := UInt8.ofNat (48 + n)
theorem digc_nat {n : Nat} (h : n < 10) : (digc n).toNat = 48 + n := by unfold digc; rw [UInt8.toNat_ofNat_of_lt' (by show 48 + n < 256; omega)]
/-- a number's digits -/
def decN (n : Nat) : List UInt8 := if n < 10 then [digc n] else decN (n / 10) ++ [digc (n % 10)]
theorem decN_small {n : Nat} (h : n < 10) : decN n = [digc n] := by rw [decN, if_pos h]
theorem decN_big {n : Nat} (h : 10 ≤ n) : decN n = decN (n / 10) ++ [digc (n % 10)] := by rw [decN, if_neg (by omega)]
/-- a number with its sign -/
def dec (n : Int) : List UInt8 := if n < 0 then 45 :: decN (-n).toNat else decN n.toNat
theorem dec_neg {n : Int} (h : n < 0) : dec n = 45 :: decN (-n).toNat := by rw [dec, if_pos h]
theorem dec_pos {n : Int} (h : 0 ≤ n) : dec n = decN n.toNat := by rw [dec, if_neg (by omega)]
theorem decN_pos (n : Nat) : 0 < (decN n).length := by rw [decN]; split <;> simp
theorem decN_len (n k : Nat) : n < 10 ^ (k + 1) → (decN n).length ≤ k + 1 := by
  induction k generalizing n with
  | zero => intro h; rw [decN_small (by simpa using h)]; simp
  | succ k ih =>
    intro h
    by_cases h1 : n < 10
    · rw [decN_small h1]; simp
    · rw [decN_big (by omega), List.length_append]
      have := ih (n / 10) (by rw [Nat.pow_succ] at h; omega)
      simp; omega
theorem decN_le {n : Nat} (h : n ≤ 9223372036854775808) : (decN n).length ≤ 19 := decN_len n 18 (by omega)
theorem dec_le {n : Int} (h1 : -9223372036854775808 ≤ n) (h2 : n ≤ 9223372036854775807) : (dec n).length ≤ 20 := by
  unfold dec; split
  · have := decN_le (n := (-n).toNat) (by omega); simp; omega
  · have := decN_le (n := n.toNat) (by omega); omega
theorem dec_ne (n : Int) : dec n ≠ [] := by
  unfold dec; split
  · simp
  · intro h; have := decN_pos n.toNat; rw [h] at this; simp at this
/-- digits are digits -/
theorem decN_dig (n : Nat) : ∀ c ∈ decN n, 48 ≤ c.toNat ∧ c.toNat ≤ 57 := by
  induction n using Nat.strongRecOn with
  | _ n ih =>
    intro c hc
    by_cases h : n < 10
    · rw [decN_small h] at hc
      rw [List.mem_singleton] at hc; subst hc
      rw [digc_nat h]; omega
    · rw [decN_big (by omega)] at hc
      rcases List.mem_append.1 hc with hc | hc
      · exact ih (n / 10) (by omega) c hc
      · rw [List.mem_singleton] at hc; subst hc
        rw [digc_nat (by omega)]; omega
theorem dec_sign (n : Int) : ∀ c ∈ dec n, 45 ≤ c.toNat ∧ c.toNat ≤ 57 := by
  intro c hc
  unfold dec at hc
  split at hc
  · rcases List.mem_cons.1 hc with rfl | hc
    · decide
    · have := decN_dig _ c hc; omega
  · have := decN_dig _ c hc; omega

/-- the last digit put ahead of what was put: a round of the loop that fills a row from its end -/
theorem dec_round (N at_ : Nat) (L : List UInt8) (h1 : at_ ≤ L.length) (h0 : 0 < at_) :
    (L.set (at_ - 1) (digc (N % 10))).drop (at_ - 1) = digc (N % 10) :: L.drop at_ := by
  obtain ⟨k, rfl⟩ : ∃ k, at_ = k + 1 := ⟨at_ - 1, by omega⟩
  simp only [Nat.add_sub_cancel]
  rw [List.drop_eq_getElem_cons (by simp; omega)]
  simp [List.drop_set_of_lt]
theorem tmod_neg (N : Nat) : (-(N : Int)).tmod 10 = -((N % 10 : Nat) : Int) := by
  rw [Int.neg_tmod, Int.tmod_eq_emod_of_nonneg (by omega)]; simp
theorem tdiv_neg (N : Nat) : (-(N : Int)).tdiv 10 = -((N / 10 : Nat) : Int) := by
  rw [Int.neg_tdiv, Int.tdiv_eq_ediv_of_nonneg (by omega)]; simp
theorem bv_set (L : List UInt8) (i : Nat) (c : UInt8) : (bv L).setIfInBounds i (.int .u8 c.toNat) = bv (L.set i c) := by
  unfold bv
  apply Array.ext'
  simp [List.map_set]
end Go.Proofs.YtgpfmkkkpdpdfaaDoor
