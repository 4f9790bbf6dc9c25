/-
  A line of notes ahead of a text: the same statements, or the same is wrong, one line further on. No program in sight.
-/
import Derived.Test.YtemjbblehiaobaaDoorTreeP
import Derived.Test.YtemjbblehiaobaaDoorLexD
namespace Go.Proofs.YtemjbblehiaobaaDoor
open Go.RowKit

def noteB : List UInt8 := [35, 32, 110, 111, 116, 101, 10]
theorem note_skip (ln : Int) (s : List UInt8) : skipP false ln (noteB ++ s) = skipP false (ln + 1) s := by
  unfold noteB
  simp [skipP, blankB]
theorem note_read (ln : Int) (s : List UInt8) (out : List Pc) : readP ((noteB ++ s).length + 1) ln (noteB ++ s) out = readP (s.length + 1) (ln + 1) s out := by
  obtain ⟨ln2, l2, hs⟩ : ∃ ln2 l2, skipP false (ln + 1) s = (ln2, l2) := ⟨_, _, rfl⟩
  rw [readP_step ln _ out ln2 l2 (by rw [note_skip]; exact hs), readP_step _ s out ln2 l2 hs]
theorem note_lex (s : List UInt8) (hs : s.length ≤ 65000) : lexP (noteB ++ s) = match lexP s with | .inl e => .inl (e.1, e.2 + 1) | .inr xs => .inr (xs.map shP) := by
  unfold lexP
  have h1 : (noteB ++ s).length = s.length + 7 := by simp [noteB]
  rw [if_neg (by omega), if_neg (by omega), note_read]
  exact readP_sh (s.length + 1) 1 s []
/-- lines are from 1 on -/
theorem readP_line1 (N : Int) : ∀ (f : Nat) (ln : Int) (l : List UInt8) (out : List Pc), 1 ≤ ln → ln + l.length ≤ N → (∀ x ∈ out, 1 ≤ x.line ∧ x.line ≤ N) → match readP f ln l out with | .inl e => 1 ≤ e.2 ∧ e.2 ≤ N | .inr xs => ∀ x ∈ xs, 1 ≤ x.line ∧ x.line ≤ N
  | 0, ln, l, out, h, hN, ho => ho
  | f + 1, ln, l, out, h, hN, ho => by
    have hs := skipP_line l false ln
    rw [readP]
    obtain ⟨q, hq⟩ : ∃ q, q = skipP false ln l := ⟨_, rfl⟩
    rw [← hq] at hs ⊢
    obtain ⟨q1, q2⟩ := q
    simp only at hs ⊢
    by_cases h1 : q2 = []
    · rw [if_pos h1]; exact ho
    · rw [if_neg h1]
      by_cases h2 : out.length = 8192
      · rw [if_pos h2]; show 1 ≤ q1 ∧ q1 ≤ N; omega
      · rw [if_neg h2]
        cases hh : oneP q2 with
        | none => show 1 ≤ q1 ∧ q1 ≤ N; omega
        | some p =>
          obtain ⟨k, t, r⟩ := p
          have hr := (oneP_len _ k t r hh).1
          refine readP_line1 N f q1 r _ (by omega) (by omega) ?_
          intro x hx
          rw [List.mem_append, List.mem_singleton] at hx
          rcases hx with hx | rfl
          · exact ho x hx
          · show 1 ≤ q1 ∧ q1 ≤ N; omega
theorem lineP_1 {P : Int → Prop} {last : Int} {l : List Pc} (h : P last) (hl : ∀ x ∈ l, P x.line) : P (lineP last l) := by
  cases l with
  | nil => exact h
  | cons x l => exact hl x (List.mem_cons_self ..)
theorem argsP_1 {P : Int → Prop} : ∀ (l : List Pc) (acc : List ByteArray), (∀ x ∈ l, P x.line) → match argsP acc l with | .inl e => P e.2 | .inr p => ∀ x ∈ p.2, P x.line
  | [], acc, h => by rw [argsP]; exact h
  | x :: l, acc, h => by
    rw [argsP]
    by_cases h1 : x.kind = 1 ∨ x.kind = 2
    · rw [if_pos h1]
      by_cases h2 : acc.length = 16
      · rw [if_pos h2]; exact h x (List.mem_cons_self ..)
      · rw [if_neg h2]; exact argsP_1 l _ (fun y hy => h y (List.mem_cons_of_mem _ hy))
    · rw [if_neg h1]; exact h
/-- an error's line is from 1 on -/
def Lined (P : Int → Prop) {α : Type} (a : (Int × Int) ⊕ (α × List Pc)) : Prop := match a with
  | .inl e => P e.2
  | .inr p => ∀ x ∈ p.2, P x.line
theorem tail_1 {P : Int → Prop} {l : List Pc} (h : ∀ x ∈ l, P x.line) : ∀ x ∈ l.tail, P x.line := fun x hx => h x (List.mem_of_mem_tail hx)
theorem oneP_1 {P : Int → Prop} {last : Int} {go : List Pc → (Int × Int) ⊕ (List Nd × List Pc)} {depth : Nat} {l : List Pc} (hlast : P last) (hl : ∀ x ∈ l, P x.line) (hg : ∀ t, (∀ x ∈ t, P x.line) → Lined P (go t)) : Lined P (oneP_t last go depth l) := by
  cases l with
  | nil => exact hlast
  | cons x l =>
    have hx := hl x (List.mem_cons_self ..)
    have ha := argsP_1 l [] (fun y hy => hl y (List.mem_cons_of_mem _ hy))
    rw [oneP_t]
    by_cases h1 : x.kind ≠ 1
    · rw [if_pos h1]; exact hx
    · rw [if_neg h1]
      cases hq : argsP [] l with
      | inl e => rw [hq] at ha; exact ha
      | inr p =>
        obtain ⟨ar, t2⟩ := p
        rw [hq] at ha
        simp only at ha ⊢
        by_cases h5 : kindP t2 = 5
        · rw [if_pos h5]; exact tail_1 ha
        · rw [if_neg h5]
          by_cases h3 : kindP t2 = 3
          · rw [if_pos h3]
            by_cases h4 : depth = 4
            · rw [if_pos h4]; exact lineP_1 hlast ha
            · rw [if_neg h4]
              have := hg t2.tail (tail_1 ha)
              cases hq' : go t2.tail with
              | inl e => rw [hq'] at this; exact this
              | inr p => rw [hq'] at this; exact tail_1 this
          · rw [if_neg h3]; exact lineP_1 hlast ha
theorem listP_1 {P : Int → Prop} {last : Int} (hlast : P last) : ∀ (f depth : Nat) (out : List Nd) (l : List Pc), (∀ x ∈ l, P x.line) → Lined P (listP last f depth out l)
  | 0, depth, out, l, h => h
  | f + 1, depth, out, l, h => by
    rw [listP]
    by_cases hd : doneP depth l = true
    · rw [if_pos hd]; exact h
    · rw [if_neg hd]
      have := oneP_1 (last := last) (depth := depth) (l := l) (go := listP last f (depth + 1) []) hlast h (fun t ht => listP_1 hlast f (depth + 1) [] t ht)
      cases hq : oneP_t last (listP last f (depth + 1) []) depth l with
      | inl e => rw [hq] at this; exact this
      | inr p =>
        rw [hq] at this
        exact listP_1 hlast f depth _ _ this
theorem listP_nil (last : Int) (f : Nat) : listP last f 0 [] [] = .inr ([], []) := by
  cases f with
  | zero => rfl
  | succ f => rw [listP]; rfl
theorem lastP_1 {P : Int → Prop} {l : List Pc} (h : l ≠ []) (hl : ∀ x ∈ l, P x.line) : P (lastP l) := by
  unfold lastP
  cases hq : l.getLast? with
  | none => exact absurd (List.getLast?_eq_none_iff.1 hq) h
  | some x => exact hl x (List.mem_of_getLast? hq)
/-- the same statements; or the same is wrong, one line further on -/
theorem note_tree (s : List UInt8) (hs : s.length ≤ 65000) : match treeP s, treeP (noteB ++ s) with
    | .inl e, .inl e' => (1 ≤ e.2 ∧ e.2 ≤ s.length + 1) ∧ e' = (e.1, e.2 + 1)
    | .inr a, .inr b => sameL a b
    | _, _ => False := by
  unfold treeP
  rw [note_lex s hs]
  have h1 : match lexP s with | .inl e => 1 ≤ e.2 ∧ e.2 ≤ s.length + 1 | .inr xs => ∀ x ∈ xs, 1 ≤ x.line ∧ x.line ≤ s.length + 1 := by
    unfold lexP
    rw [if_neg (by omega)]
    exact readP_line1 _ _ 1 s [] (by omega) (by omega) (by simp)
  cases hq : lexP s with
  | inl e => rw [hq] at h1; exact ⟨h1, rfl⟩
  | inr l =>
    rw [hq] at h1
    simp only at h1 ⊢
    rw [List.length_map]
    by_cases hl : l = []
    · subst hl
      rw [List.map_nil, listP_nil]
      simp [sameL]
    · rw [lastP_sh l hl]
      have h2 := listP_sh (lastP l) (l.length + 1) 0 [] [] l (by simp [sameL])
      have h3 := listP_1 (P := fun n => 1 ≤ n ∧ n ≤ s.length + 1) (lastP_1 (P := fun n => 1 ≤ n ∧ n ≤ s.length + 1) hl h1) (l.length + 1) 0 [] l h1
      cases ha : listP (lastP l) (l.length + 1) 0 [] l with
      | inl e =>
        rw [ha] at h2 h3
        cases hb : listP (lastP l + 1) (l.length + 1) 0 [] (l.map shP) with
        | inl e' => rw [hb] at h2; exact ⟨h3, h2⟩
        | inr p => rw [hb] at h2; exact h2.elim
      | inr p =>
        rw [ha] at h2
        cases hb : listP (lastP l + 1) (l.length + 1) 0 [] (l.map shP) with
        | inl e' => rw [hb] at h2; exact h2.elim
        | inr p' => rw [hb] at h2; exact h2.1
end Go.Proofs.YtemjbblehiaobaaDoor
