/-
  Lines of a text, in plain words: the last lines that the document's answer gathers begin where the past's way back ends. No program in sight.
-/
import Derived.Test.YtclgjcdkjgkchaaBase
namespace Go.Proofs.Ytclgjcdkjgkchaa

/-- where the line begins in which place j lies -/
def scanP (t : List UInt8) : Nat → Nat
  | 0 => 0
  | j + 1 => if t[j]? = some 10 then j + 1 else scanP t j
/-- n lines back from place i -/
def backN (t : List UInt8) (i : Nat) : Nat → Nat
  | 0 => i
  | n + 1 => backN t (scanP t (i - 1)) n

theorem scanP_le (t : List UInt8) : ∀ j, scanP t j ≤ j
  | 0 => Nat.le_refl _
  | j + 1 => by unfold scanP; split; omega; have := scanP_le t j; omega
theorem backN_zero (t : List UInt8) : ∀ n, backN t 0 n = 0
  | 0 => rfl
  | n + 1 => by unfold backN; exact backN_zero t n
theorem backN_le (t : List UInt8) : ∀ n i, backN t i n ≤ i
  | 0, i => Nat.le_refl _
  | n + 1, i => by unfold backN; have := backN_le t n (scanP t (i - 1)); have := scanP_le t (i - 1); omega
/-- at a place ahead of which a line feed stands the scan stays -/
theorem scanP_hit (t : List UInt8) (j : Nat) (h : t[j]? = some 10) : scanP t (j + 1) = j + 1 := by unfold scanP; rw [if_pos h]
theorem scanP_miss (t : List UInt8) (j : Nat) (h : t[j]? ≠ some 10) : scanP t (j + 1) = scanP t j := by rw [scanP, if_neg h]

/-- the lines of a text -/
def linesP : List UInt8 → List (List UInt8)
  | [] => []
  | c :: s => if c = 10 then [10] :: linesP s else match linesP s with
    | [] => [[c]]
    | l :: ls => (c :: l) :: ls

theorem linesP_feed (s : List UInt8) : linesP (10 :: s) = [10] :: linesP s := by simp [linesP]
theorem linesP_nil (c : UInt8) (s : List UInt8) (hc : c ≠ 10) (h : linesP s = []) : linesP (c :: s) = [[c]] := by simp [linesP, hc, h]
theorem linesP_cons (c : UInt8) (s : List UInt8) (hc : c ≠ 10) {l : List UInt8} {ls : List (List UInt8)} (h : linesP s = l :: ls) : linesP (c :: s) = (c :: l) :: ls := by simp [linesP, hc, h]

theorem linesP_front : ∀ (a : List UInt8), 10 ∉ a → ∀ b, linesP (a ++ 10 :: b) = (a ++ [10]) :: linesP b
  | [], _, b => linesP_feed b
  | c :: a, h, b => by
    have hc : c ≠ 10 := fun e => h (by simp [e])
    exact linesP_cons c _ hc (linesP_front a (fun e => h (by simp [e])) b)
theorem linesP_rest : ∀ (a : List UInt8), 10 ∉ a → linesP a = if a = [] then [] else [a]
  | [], _ => rfl
  | c :: a, h => by
    have hc : c ≠ 10 := fun e => h (by simp [e])
    have ih := linesP_rest a (fun e => h (by simp [e]))
    rw [if_neg (by simp)]
    by_cases ha : a = []
    · subst ha; exact linesP_nil c [] hc rfl
    · rw [if_neg ha] at ih; exact linesP_cons c a hc ih
theorem linesP_empty {s : List UInt8} (h : linesP s = []) : s = [] := by
  cases s with
  | nil => rfl
  | cons c s =>
    by_cases hc : c = 10
    · subst hc; rw [linesP_feed] at h; cases h
    · cases hs : linesP s with
      | nil => rw [linesP_nil c s hc hs] at h; cases h
      | cons l ls => rw [linesP_cons c s hc hs] at h; cases h
theorem linesP_flat : ∀ s : List UInt8, (linesP s).flatten = s
  | [] => rfl
  | c :: s => by
    have ih := linesP_flat s
    by_cases hc : c = 10
    · subst hc; rw [linesP_feed]; simp [ih]
    · cases hs : linesP s with
      | nil => rw [linesP_nil c s hc hs]; have := linesP_empty hs; subst this; rfl
      | cons l ls => rw [linesP_cons c s hc hs]; rw [hs] at ih; simp at ih ⊢; exact ih

/-- the last line, and what is ahead of it -/
theorem linesP_last : ∀ (t : List UInt8) (ls : List (List UInt8)) (l : List UInt8), linesP t = ls ++ [l] →
    linesP ls.flatten = ls ∧ l ≠ [] ∧ 10 ∉ l.dropLast ∧ (ls.flatten = [] ∨ ∃ p, ls.flatten = p ++ [10])
  | [], ls, l, h => by cases ls <;> simp [linesP] at h
  | c :: s, ls, l, h => by
    by_cases hc : c = 10
    · subst hc
      rw [linesP_feed] at h
      cases ls with
      | nil =>
        simp at h
        obtain ⟨rfl, h2⟩ := h
        exact ⟨rfl, by simp, by simp, .inl rfl⟩
      | cons l0 ls =>
        simp at h
        obtain ⟨rfl, h2⟩ := h
        obtain ⟨i1, i2, i3, i4⟩ := linesP_last s ls l h2
        refine ⟨?_, i2, i3, .inr ?_⟩
        · rw [List.flatten_cons]; show linesP (10 :: ls.flatten) = _; rw [linesP_feed, i1]
        · rcases i4 with i4 | ⟨p, i4⟩
          · exact ⟨[], by rw [List.flatten_cons, i4]; rfl⟩
          · exact ⟨10 :: p, by rw [List.flatten_cons, i4]; rfl⟩
    · cases hs : linesP s with
      | nil =>
        rw [linesP_nil c s hc hs] at h
        cases ls with
        | nil => simp at h; subst h; exact ⟨rfl, by simp, by simp, .inl rfl⟩
        | cons l0 ls => simp at h
      | cons l0 ls0 =>
        rw [linesP_cons c s hc hs] at h
        cases ls with
        | nil =>
          simp at h
          obtain ⟨rfl, h2⟩ := h
          subst h2
          obtain ⟨i1, i2, i3, i4⟩ := linesP_last s [] l0 (by rw [hs]; rfl)
          refine ⟨rfl, by simp, ?_, .inl rfl⟩
          rw [List.dropLast_cons_of_ne_nil i2]
          intro e
          rcases List.mem_cons.1 e with e | e
          · exact hc e.symm
          · exact i3 e
        | cons l1 ls =>
          simp at h
          obtain ⟨rfl, h2⟩ := h
          obtain ⟨i1, i2, i3, i4⟩ := linesP_last s (l0 :: ls) l (by rw [hs, h2]; rfl)
          have hflat : ((c :: l0) :: ls).flatten = c :: (l0 :: ls).flatten := by simp
          refine ⟨?_, i2, i3, .inr ?_⟩
          · rw [hflat]; exact linesP_cons c _ hc i1
          · rcases i4 with i4 | ⟨p, i4⟩
            · rw [i4] at i1; simp [linesP] at i1
            · exact ⟨c :: p, by rw [hflat, i4]; rfl⟩

theorem scan_last (p l : List UInt8) (hl : 10 ∉ l.dropLast) (hp : p = [] ∨ ∃ q, p = q ++ [10]) : ∀ k, k < l.length → scanP (p ++ l) (p.length + k) = p.length
  | 0, _ => by
    rcases hp with rfl | ⟨q, rfl⟩
    · rfl
    · rw [List.length_append, Nat.add_zero]
      exact scanP_hit _ q.length (by simp)
  | k + 1, h => by
    rw [← Nat.add_assoc, scanP_miss, scan_last p l hl hp k (by omega)]
    rw [List.getElem?_append_right (by omega), Nat.add_sub_cancel_left]
    intro e
    apply hl
    have : l.dropLast[k]? = some 10 := by rw [List.getElem?_dropLast, if_pos (by omega), e]
    exact List.mem_of_getElem? this

theorem scanP_take (t u : List UInt8) : ∀ j, j ≤ t.length → scanP (t ++ u) j = scanP t j
  | 0, _ => rfl
  | j + 1, h => by
    unfold scanP
    rw [List.getElem?_append_left (by omega), scanP_take t u j (by omega)]
theorem backN_take (t u : List UInt8) : ∀ n i, i ≤ t.length → backN (t ++ u) i n = backN t i n
  | 0, i, _ => rfl
  | n + 1, i, h => by
    unfold backN
    rw [scanP_take t u _ (by omega)]
    exact backN_take t u n _ (by have := scanP_le t (i - 1); omega)

/-- THE LAST LINES BEGIN WHERE THE WAY BACK ENDS -/
theorem back_last : ∀ (n : Nat) (t : List UInt8), backN t t.length n + (((linesP t).drop ((linesP t).length - n)).flatten).length = t.length
  | 0, t => by simp [backN]
  | n + 1, t => by
    rcases List.eq_nil_or_concat (linesP t) with h | ⟨ls, l, h⟩
    · have := linesP_empty h
      subst this
      simp [backN_zero, linesP]
    · rw [List.concat_eq_append] at h
      obtain ⟨i1, i2, i3, i4⟩ := linesP_last t ls l h
      have ht : t = ls.flatten ++ l := by rw [← linesP_flat t, h]; simp
      have hl0 : 0 < l.length := List.length_pos_iff.2 i2
      have hs : scanP t (t.length - 1) = ls.flatten.length := by
        have := scan_last ls.flatten l i3 i4 (l.length - 1) (by omega)
        rw [← ht] at this
        rw [show t.length - 1 = ls.flatten.length + (l.length - 1) by rw [ht, List.length_append]; omega]
        exact this
      have ih := back_last n ls.flatten
      rw [i1] at ih
      have hb : backN t t.length (n + 1) = backN ls.flatten ls.flatten.length n := by
        show backN t (scanP t (t.length - 1)) n = _
        rw [hs, ht]
        exact backN_take ls.flatten l n _ (Nat.le_refl _)
      rw [hb, h, List.length_append, List.length_singleton, show ls.length + 1 - (n + 1) = ls.length - n by omega]
      rw [List.drop_append_of_le_length (by omega), List.flatten_append, List.length_append]
      have hlen : t.length = ls.flatten.length + l.length := by rw [ht, List.length_append]
      simp only [List.flatten_cons, List.flatten_nil, List.append_nil]
      omega
end Go.Proofs.Ytclgjcdkjgkchaa
