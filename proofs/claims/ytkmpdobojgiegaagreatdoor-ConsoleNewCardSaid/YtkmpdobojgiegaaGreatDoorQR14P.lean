/-
  The document's break sequences, plainly: which step stands first. No program in sight.
-/
import Derived.Test.YtkmpdobojgiegaaGreatDoorQGround1
import Derived.Test.YtkmpdobojgiegaaGreatDoorQR02
namespace Go.Proofs.YtkmpdobojgiegaaGreatDoor
open Go.RowKit

def pad2 (n : Nat) : List UInt8 := padL (decN n) 2
theorem pad2_at : ∀ n, n < 100 → pad2 n = [UInt8.ofNat (48 + n / 10), UInt8.ofNat (48 + n % 10)] := by
  intro n hn
  unfold pad2
  by_cases h : n < 10
  · rw [decN_small h]
    unfold padL digc
    rw [Nat.div_eq_of_lt h, Nat.mod_eq_of_lt h]
    rfl
  · rw [decN_big (by omega), decN_small (by omega)]
    unfold padL digc
    rfl
theorem u8_nat (n : Nat) (h : n < 256) : (UInt8.ofNat n).toNat = n := UInt8.toNat_ofNat_of_lt' h
theorem digN_of {n : Nat} (h : n < 10) : digN (UInt8.ofNat (48 + n)) = some n := by
  unfold digN
  rw [u8_nat _ (by omega), if_pos (by omega)]
  simp
theorem digN_is {c : UInt8} {a : Nat} (h : digN c = some a) : c = UInt8.ofNat (48 + a) ∧ a < 10 := by
  unfold digN at h
  split at h
  · injection h with h
    have := c.toNat_lt
    exact ⟨UInt8.toNat_inj.1 (by rw [u8_nat _ (by omega)]; omega), by omega⟩
  · cases h
theorem hexN_of {n : Nat} (h : n < 16) : hexN (hexD n) = some n := by
  unfold hexN hexD
  by_cases h10 : n < 10
  · rw [if_pos h10, u8_nat _ (by omega), if_pos (by omega)]
    simp
  · rw [if_neg h10, u8_nat _ (by omega), if_neg (by omega), if_pos (by omega)]
    simp
theorem hexN_is {c : UInt8} {a : Nat} (h : hexN c = some a) : c = hexD a ∧ a < 16 := by
  have hc := c.toNat_lt
  unfold hexN at h
  split at h
  · injection h with h
    refine ⟨?_, by omega⟩
    unfold hexD
    rw [if_pos (by omega)]
    exact UInt8.toNat_inj.1 (by rw [u8_nat _ (by omega)]; omega)
  · split at h
    · injection h with h
      refine ⟨?_, by omega⟩
      unfold hexD
      rw [if_neg (by omega)]
      exact UInt8.toNat_inj.1 (by rw [u8_nat _ (by omega)]; omega)
    · cases h
/-- a wait of n ticks stands first -/
def isW14 (l : List UInt8) (n : Nat) : Prop := l.take 4 = 92 :: 119 :: pad2 n
/-- a byte's number stands first -/
def isX14 (l : List UInt8) (n : Nat) : Prop := 4 ≤ l.length ∧ l.take 4 = 92 :: 120 :: hexL (UInt8.ofNat n)
/-- a byte's sign of two stands first -/
def isS14 (l : List UInt8) (n : Nat) : Prop := (signL (UInt8.ofNat n)).length = 2 ∧ 2 ≤ l.length ∧ l.take 2 = signL (UInt8.ofNat n)
theorem stepP_w {l : List UInt8} {n : Nat} (h0 : 1 ≤ n) (hn : n < 100) (h : isW14 l n) : stepP l = some (⟨2, [], n⟩, 4) := by
  unfold isW14 at h
  rw [pad2_at n hn] at h
  obtain ⟨r, rfl⟩ : ∃ r, l = [92, 119, UInt8.ofNat (48 + n / 10), UInt8.ofNat (48 + n % 10)] ++ r := ⟨l.drop 4, by rw [← h, List.take_append_drop]⟩
  show escP (119 :: UInt8.ofNat (48 + n / 10) :: UInt8.ofNat (48 + n % 10) :: r) = _
  unfold escP
  simp only [show (119 : UInt8).toNat = 119 from rfl]
  simp only [two, digN_of (show n / 10 < 10 by omega), digN_of (show n % 10 < 10 by omega)]
  rw [show 10 * (n / 10) + n % 10 = n by omega]
  simp only [show ¬ (119 = 92) by omega, show ¬ (119 = 114) by omega, show ¬ (119 = 110) by omega, show ¬ (119 = 116) by omega, show ¬ (119 = 100) by omega, show ¬ (119 = 122) by omega, if_false, if_true]
  rw [if_pos (by omega)]
theorem stepP_x {l : List UInt8} {n : Nat} (hn : n < 256) (h : isX14 l n) : stepP l = some (⟨1, [UInt8.ofNat n], 0⟩, 4) := by
  obtain ⟨-, h⟩ := h
  unfold hexL at h
  rw [u8_nat _ hn] at h
  obtain ⟨r, rfl⟩ : ∃ r, l = [92, 120, hexD (n / 16), hexD (n % 16)] ++ r := ⟨l.drop 4, by rw [← h, List.take_append_drop]⟩
  show escP (120 :: hexD (n / 16) :: hexD (n % 16) :: r) = _
  unfold escP
  simp only [show (120 : UInt8).toNat = 120 from rfl]
  simp only [two, hexN_of (show n / 16 < 16 by omega), hexN_of (show n % 16 < 16 by omega)]
  rw [show 16 * (n / 16) + n % 16 = n by omega]
  simp only [show ¬ (120 = 92) by omega, show ¬ (120 = 114) by omega, show ¬ (120 = 110) by omega, show ¬ (120 = 116) by omega, show ¬ (120 = 100) by omega, show ¬ (120 = 122) by omega, show ¬ (120 = 119) by omega, if_false, if_true]
/-- the bytes that have a sign of two -/
theorem sign_two {c : UInt8} (h : (signL c).length = 2) : c = 92 ∧ signL c = [92, 92] ∨ c = 10 ∧ signL c = [92, 110] ∨ c = 13 ∧ signL c = [92, 114] ∨ c = 9 ∧ signL c = [92, 116] := by
  have e : ∀ n : Nat, n < 256 → c.toNat = n → c = UInt8.ofNat n := fun n hn h => UInt8.toNat_inj.1 (by rw [u8_nat _ hn]; exact h)
  unfold signL at h
  split at h
  · rename_i h1; obtain rfl := e _ (by omega) h1; exact .inl ⟨rfl, rfl⟩
  · split at h
    · rename_i h1; obtain rfl := e _ (by omega) h1; exact .inr (.inl ⟨rfl, rfl⟩)
    · split at h
      · rename_i h1; obtain rfl := e _ (by omega) h1; exact .inr (.inr (.inl ⟨rfl, rfl⟩))
      · split at h
        · rename_i h1; obtain rfl := e _ (by omega) h1; exact .inr (.inr (.inr ⟨rfl, rfl⟩))
        · split at h
          · simp [hexL] at h
          · simp at h
theorem stepP_s {l : List UInt8} {n : Nat} (h : isS14 l n) : stepP l = some (⟨1, [UInt8.ofNat n], 0⟩, 2) := by
  obtain ⟨h1, -, h2⟩ := h
  obtain ⟨r, hr⟩ : ∃ r, l = signL (UInt8.ofNat n) ++ r := ⟨l.drop 2, by rw [← h2, List.take_append_drop]⟩
  subst hr
  rcases sign_two h1 with ⟨e, e2⟩ | ⟨e, e2⟩ | ⟨e, e2⟩ | ⟨e, e2⟩ <;> rw [e2, e] <;> rfl
theorem esc_no {l : List UInt8} {d : UInt8} {u : List UInt8} (hl : l = 92 :: d :: u) (h1 : d.toNat ≠ 100) (h2 : d.toNat ≠ 122) (hw : ∀ n, 1 ≤ n → n < 100 → 4 ≤ l.length → ¬ isW14 l n) (hx : ∀ n, n < 256 → ¬ isX14 l n) (hs : ∀ n, n < 256 → ¬ isS14 l n) : stepP l = none := by
  subst hl
  have e : ∀ n : Nat, n < 256 → d.toNat = n → d = UInt8.ofNat n := fun n hn h => UInt8.toNat_inj.1 (by rw [u8_nat _ hn]; exact h)
  show escP (d :: u) = none
  unfold escP
  simp only
  have s92 : d.toNat ≠ 92 := fun h => hs 92 (by omega) (by obtain rfl := e _ (by omega) h; exact ⟨rfl, by simp, rfl⟩)
  have s114 : d.toNat ≠ 114 := fun h => hs 13 (by omega) (by obtain rfl := e _ (by omega) h; exact ⟨rfl, by simp, rfl⟩)
  have s110 : d.toNat ≠ 110 := fun h => hs 10 (by omega) (by obtain rfl := e _ (by omega) h; exact ⟨rfl, by simp, rfl⟩)
  have s116 : d.toNat ≠ 116 := fun h => hs 9 (by omega) (by obtain rfl := e _ (by omega) h; exact ⟨rfl, by simp, rfl⟩)
  rw [if_neg s92, if_neg s114, if_neg s110, if_neg s116, if_neg h1, if_neg h2]
  split
  · rename_i h
    obtain rfl := e _ (by omega) h
    cases hq : two 10 digN u with
    | none => rfl
    | some p =>
      obtain ⟨n, r⟩ := p
      simp only
      rw [if_neg]
      intro hn
      obtain ⟨x, y, u2, rfl⟩ : ∃ x y u2, u = x :: y :: u2 := by
        match u, hq with
        | x :: y :: u2, _ => exact ⟨x, y, u2, rfl⟩
      unfold two at hq
      simp only at hq
      cases ha : digN x with
      | none => rw [ha] at hq; cases hq
      | some a =>
        cases hb : digN y with
        | none => rw [ha, hb] at hq; cases hq
        | some b =>
          rw [ha, hb] at hq
          injection hq with hq
          injection hq with e1 e2
          obtain ⟨rfl, ha2⟩ := digN_is ha
          obtain ⟨rfl, hb2⟩ := digN_is hb
          refine hw n (by omega) (by omega) (by simp) ?_
          unfold isW14
          rw [pad2_at n (by omega), show n / 10 = a by omega, show n % 10 = b by omega]
          rfl
  · split
    · rename_i h
      obtain rfl := e _ (by omega) h
      cases hq : two 16 hexN u with
      | none => rfl
      | some p =>
        obtain ⟨n, r⟩ := p
        exfalso
        obtain ⟨x, y, u2, rfl⟩ : ∃ x y u2, u = x :: y :: u2 := by
          match u, hq with
          | x :: y :: u2, _ => exact ⟨x, y, u2, rfl⟩
        unfold two at hq
        simp only at hq
        cases ha : hexN x with
        | none => rw [ha] at hq; cases hq
        | some a =>
          cases hb : hexN y with
          | none => rw [ha, hb] at hq; cases hq
          | some b =>
            rw [ha, hb] at hq
            injection hq with hq
            injection hq with e1 e2
            obtain ⟨rfl, ha2⟩ := hexN_is ha
            obtain ⟨rfl, hb2⟩ := hexN_is hb
            refine hx n (by omega) ⟨by simp, ?_⟩
            unfold hexL
            rw [u8_nat _ (by omega), show n / 16 = a by omega, show n % 16 = b by omega]
            rfl
    · rfl
def oneV (o : Option (Stp × Nat)) : Value := match o with
  | none => .tuple #[.agg #[.int .i64 0, .string ⟨#[]⟩, .int .i64 0], .int .i64 0]
  | some (x, n) => .tuple #[.agg (stpR x).toArray, .int .i64 n]
theorem take_ext (s : ByteArray) (l : List UInt8) (h : s.data.toList = l) (n : Nat) : s.extract 0 n = str (l.take n) := ba_ext (by
  rw [ByteArray.data_extract, Array.toList_extract, List.extract_eq_take_drop, h, str_list]; simp)
end Go.Proofs.YtkmpdobojgiegaaGreatDoor
