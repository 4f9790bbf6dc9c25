/-
  What is put is read, as functions on lists of bytes. No walk.
-/
import Derived.Test.YtfpajgmdejlaeaaGreatDoorQLexRD
namespace Go.Proofs.YtfpajgmdejlaeaaGreatDoor
open Go.RowKit

/-- what stands between two pieces, and how many lines further on that leads -/
def gapP (n : Nat) : List UInt8 × Int := if n % 4 = 0 then ([32], 0) else if n % 4 = 1 then ([10], 1) else if n % 4 = 2 then ([35, 32, 97, 32, 123, 32, 98, 32, 34, 32, 99, 10], 1) else ([9, 13, 10, 32, 10], 2)
/-- a piece, and what stands behind it -/
structure Part12 where
  kind : Int
  text : ByteArray
  gap : Nat
/-- the text of parts, and the pieces that it has -/
def backP : List Part12 → Int → List UInt8 × List Pc
  | [], _ => ([], [])
  | x :: l, line => if (putP_lexm x.kind x.text.data.toList).2 ≠ 0 then backP l line else
      ((putP_lexm x.kind x.text.data.toList).1 ++ (gapP x.gap).1 ++ (backP l (line + (gapP x.gap).2)).1, ⟨x.kind, x.text, line⟩ :: (backP l (line + (gapP x.gap).2)).2)

theorem quote_back (t : List UInt8) (more : List UInt8) : ∀ acc, t.all seenB = true → quoteP acc (quotedP t ++ 34 :: more) = some (acc ++ t, more) := by
  induction t with
  | nil => intro acc _; simp [quotedP, quoteP_cons]
  | cons c t ih =>
    intro acc h
    rw [List.all_cons, Bool.and_eq_true] at h
    have hs : 32 ≤ c.toNat ∧ c.toNat ≤ 126 := by have := h.1; unfold seenB at this; simpa using this
    unfold quotedP
    rw [List.flatMap_cons]
    have ih2 := fun acc => ih acc h.2
    unfold quotedP at ih2
    by_cases he : c.toNat = 34 ∨ c.toNat = 92
    · rw [if_pos he]
      simp only [List.cons_append, List.nil_append]
      rw [quoteP_cons, if_neg (by decide), if_pos (by decide)]
      simp only [if_pos he]
      rw [ih2]; simp
    · rw [if_neg he]
      simp only [List.cons_append, List.nil_append]
      rw [quoteP_cons, if_neg (by omega), if_neg (by omega), if_neg (by omega), ih2]; simp
theorem word_back (t : List UInt8) (g : UInt8) (more : List UInt8) (h : t.all plainB = true) (hg : plainB g = false) : (t ++ g :: more).takeWhile plainB = t ∧ (t ++ g :: more).dropWhile plainB = g :: more := by
  induction t with
  | nil => simp [hg]
  | cons c t ih =>
    rw [List.all_cons, Bool.and_eq_true] at h
    have := ih h.2
    simp [h.1, this.1, this.2]
theorem plain_byte {c : UInt8} (h : plainB c = true) : c.toNat ≠ 10 ∧ blankB c = false ∧ c.toNat ≠ 35 ∧ c.toNat ≠ 123 ∧ c.toNat ≠ 125 ∧ c.toNat ≠ 59 ∧ c.toNat ≠ 34 := by
  unfold plainB plainN at h
  simp at h
  refine ⟨by omega, ?_, by omega, by omega, by omega, by omega, by omega⟩
  unfold blankB; simp; omega
theorem gap_head (n : Nat) : ∃ g t, (gapP n).1 = g :: t ∧ plainB g = false := by
  unfold gapP
  split
  · exact ⟨_, _, rfl, by decide⟩
  · split
    · exact ⟨_, _, rfl, by decide⟩
    · split
      · exact ⟨_, _, rfl, by decide⟩
      · exact ⟨_, _, rfl, by decide⟩
theorem gap_skip (n : Nat) (line : Int) (more : List UInt8) : skipP false line ((gapP n).1 ++ more) = skipP false (line + (gapP n).2) more := by
  unfold gapP
  have b32 : blankB 32 = true := by decide
  have b9 : blankB 9 = true := by decide
  have b13 : blankB 13 = true := by decide
  have b35 : blankB 35 = false := by decide
  split
  · simp [skipP_cons, b32]
  · split
    · simp [skipP_cons]
    · split
      · simp [skipP_cons, b35]
      · simp [skipP_cons, b9, b13, b32]; congr 1; omega
/-- what is put stands first, and is read as it is -/
theorem put_back (k : Int) (t : List UInt8) (n : Nat) (more : List UInt8) (line : Int) (h : (putP_lexm k t).2 = 0) :
    ∃ c u, (putP_lexm k t).1 = c :: u ∧ skipP false line ((putP_lexm k t).1 ++ ((gapP n).1 ++ more)) = (line, (putP_lexm k t).1 ++ ((gapP n).1 ++ more)) ∧
      oneP ((putP_lexm k t).1 ++ ((gapP n).1 ++ more)) = some (k, t, (gapP n).1 ++ more) := by
  obtain ⟨g, gt, hg, hgp⟩ := gap_head n
  rw [hg]
  unfold putP_lexm at h ⊢
  by_cases h1 : k = 1
  · subst h1
    rw [if_pos rfl] at h ⊢
    by_cases hw : wordyP t = true
    · rw [if_pos hw] at h ⊢
      unfold wordyP at hw
      rw [Bool.and_eq_true] at hw
      obtain ⟨hne, hall⟩ := hw
      cases t with
      | nil => simp at hne
      | cons c u =>
        have hc := plain_byte (by rw [List.all_cons, Bool.and_eq_true] at hall; exact hall.1 : plainB c = true)
        have hcp : plainB c = true := by rw [List.all_cons, Bool.and_eq_true] at hall; exact hall.1
        have hb := word_back (c :: u) g (gt ++ more) hall hgp
        refine ⟨c, u, rfl, ?_, ?_⟩
        · rw [List.cons_append, skipP_cons, if_neg hc.1, if_neg (by simp [hc.2.1]), if_neg hc.2.2.1]
        · rw [List.cons_append, List.cons_append, oneP_cons, if_neg hc.2.2.2.1, if_neg hc.2.2.2.2.1, if_neg hc.2.2.2.2.2.1, if_neg hc.2.2.2.2.2.2, if_pos hcp]
          rw [List.cons_append] at hb
          rw [hb.1, hb.2]
    · rw [if_neg hw] at h; simp at h
  · rw [if_neg h1] at h ⊢
    by_cases h2 : k = 2
    · subst h2
      rw [if_pos rfl] at h ⊢
      by_cases hs : t.all seenB = true
      · rw [if_pos hs] at h ⊢
        refine ⟨34, _, rfl, ?_, ?_⟩
        · rw [List.cons_append, skipP_cons, if_neg (by decide), if_neg (by decide), if_neg (by decide)]
        · rw [List.cons_append, oneP_cons, if_neg (by decide), if_neg (by decide), if_neg (by decide), if_pos (by decide), List.append_assoc]
          have := quote_back t ((g :: gt) ++ more) [] hs
          rw [List.singleton_append, this]; rfl
      · rw [if_neg hs] at h; simp at h
    · rw [if_neg h2] at h ⊢
      by_cases h3 : 3 ≤ k ∧ k ≤ 5
      · rw [if_pos h3] at h ⊢
        by_cases h0 : t = []
        · rw [if_pos h0] at h ⊢
          subst h0
          have : k = 3 ∨ k = 4 ∨ k = 5 := by omega
          rcases this with rfl | rfl | rfl
          · exact ⟨123, [], rfl, rfl, rfl⟩
          · exact ⟨125, [], rfl, rfl, rfl⟩
          · exact ⟨59, [], rfl, rfl, rfl⟩
        · rw [if_neg h0] at h; simp at h
      · rw [if_neg h3] at h; simp at h

theorem read_gap (n : Nat) (line : Int) (more : List UInt8) (out : List Pc) : readP (((gapP n).1 ++ more).length + 1) line ((gapP n).1 ++ more) out = readP (more.length + 1) (line + (gapP n).2) more out := by
  obtain ⟨ln2, l2, hs⟩ : ∃ ln2 l2, skipP false (line + (gapP n).2) more = (ln2, l2) := ⟨_, _, rfl⟩
  rw [readP_step line _ out ln2 l2 (by rw [gap_skip]; exact hs), readP_step _ more out ln2 l2 hs]
theorem read_back (l : List Part12) : ∀ (line : Int) (out : List Pc), out.length + l.length ≤ 8192 → readP ((backP l line).1.length + 1) line (backP l line).1 out = .inr (out ++ (backP l line).2) := by
  induction l with
  | nil => intro line out _; simp [backP, readP, skipP]
  | cons x l ih =>
    intro line out hl
    rw [List.length_cons] at hl
    rw [backP]
    by_cases hp : (putP_lexm x.kind x.text.data.toList).2 ≠ 0
    · rw [if_pos hp]; exact ih line out (by omega)
    · rw [if_neg hp]
      simp only []
      have hp0 : (putP_lexm x.kind x.text.data.toList).2 = 0 := by omega
      obtain ⟨c, u, hcu, hsk, hone⟩ := put_back x.kind x.text.data.toList x.gap (backP l (line + (gapP x.gap).2)).1 line hp0
      rw [List.append_assoc, readP_step line _ out line _ hsk, if_neg (by rw [hcu]; simp), if_neg (by omega), hone]
      simp only []
      rw [read_gap, ih _ _ (by simp; omega), str_of]
      simp
theorem gap_len (n : Nat) : (gapP n).1.length ≤ 12 ∧ 0 ≤ (gapP n).2 ∧ (gapP n).2 ≤ 2 := by
  unfold gapP; split
  · simp
  · split
    · simp
    · split <;> simp
theorem put_len_lexbackm (k : Int) (t : List UInt8) : (putP_lexm k t).1.length ≤ 2 * t.length + 2 := by
  unfold putP_lexm
  have := quotedP_len t
  repeat' split
  all_goals (try simp)
  all_goals omega
theorem back_len (l : List Part12) (M : Nat) (h : ∀ x ∈ l, x.text.size ≤ M) : ∀ line, (backP l line).1.length ≤ l.length * (2 * M + 14) := by
  induction l with
  | nil => intro line; simp [backP]
  | cons x l ih =>
    intro line
    have hx := h x (by simp)
    have ih2 := fun line => ih (fun y hy => h y (by simp [hy])) line
    rw [backP, List.length_cons, Nat.succ_mul]
    split
    · have := ih2 line; omega
    · have h1 := ih2 (line + (gapP x.gap).2)
      have h2 := put_len_lexbackm x.kind x.text.data.toList
      have h3 := (gap_len x.gap).1
      have h4 : x.text.data.toList.length = x.text.size := by simp
      simp only [List.length_append]
      omega
theorem lex_back (l : List Part12) (hl : l.length ≤ 30) (h : ∀ x ∈ l, x.text.size ≤ 60) : lexP (backP l 1).1 = .inr (backP l 1).2 := by
  have h1 := back_len l 60 h 1
  unfold lexP
  rw [if_neg (by omega)]
  have := read_back l 1 [] (by simp; omega)
  simpa using this
end Go.Proofs.YtfpajgmdejlaeaaGreatDoor
