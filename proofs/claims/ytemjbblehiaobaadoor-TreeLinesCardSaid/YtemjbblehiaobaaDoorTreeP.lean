/-
  The statements of a text, plainly: what a text's pieces are as statements; a line of notes ahead makes all lines one more. No program in sight.
-/
import Derived.Test.YtemjbblehiaobaaDoorLexM
namespace Go.Proofs.YtemjbblehiaobaaDoor
open Go.RowKit

/-- a statement: its key, its arguments, whether it has a block, the statements of that, its line -/
inductive Nd where
  | mk (key : ByteArray) (args : List ByteArray) (block : Bool) (list : List Nd) (line : Int)
def kindP (l : List Pc) : Int := match l with | x :: _ => x.kind | [] => 0
def lineP (last : Int) (l : List Pc) : Int := match l with | x :: _ => x.line | [] => last
/-- arguments, behind those that are there -/
def argsP : List ByteArray → List Pc → (Int × Int) ⊕ (List ByteArray × List Pc)
  | acc, [] => .inr (acc, [])
  | acc, x :: t => if x.kind = 1 ∨ x.kind = 2 then (if acc.length = 16 then .inl (15, x.line) else argsP (acc ++ [x.text]) t) else .inr (acc, x :: t)
def doneP (depth : Nat) (l : List Pc) : Bool := decide ((kindP l = 0 ∧ depth = 0) ∨ (kindP l = 4 ∧ 0 < depth))
/-- a statement, where what comes behind an opened block is read by 'go' -/
def oneP_t (last : Int) (go : List Pc → (Int × Int) ⊕ (List Nd × List Pc)) (depth : Nat) : List Pc → (Int × Int) ⊕ (Nd × List Pc)
  | [] => .inl (3, last)
  | x :: t =>
    if x.kind ≠ 1 then .inl (3, x.line)
    else match argsP [] t with
      | .inl e => .inl e
      | .inr (as, t2) =>
        if kindP t2 = 5 then .inr (.mk x.text as false [] x.line, t2.tail)
        else if kindP t2 = 3 then
          (if depth = 4 then .inl (15, lineP last t2)
          else match go t2.tail with
            | .inl e => .inl e
            | .inr (l, t3) => .inr (.mk x.text as true l x.line, t3.tail))
        else .inl (3, lineP last t2)
/-- statements, up to the end of a block, or of all, behind those that are there -/
def listP (last : Int) : Nat → Nat → List Nd → List Pc → (Int × Int) ⊕ (List Nd × List Pc)
  | 0, _, out, l => .inr (out, l)
  | f + 1, depth, out, l =>
    if doneP depth l then .inr (out, l)
    else match oneP_t last (listP last f (depth + 1) []) depth l with
      | .inl e => .inl e
      | .inr (x, t) => listP last f depth (out ++ [x]) t
def lastP (l : List Pc) : Int := match l.getLast? with | some x => x.line | none => 0
def treeP (s : List UInt8) : (Int × Int) ⊕ List Nd := match lexP s with
  | .inl e => .inl e
  | .inr l => match listP (lastP l) (l.length + 1) 0 [] l with
    | .inl e => .inl e
    | .inr (out, _) => .inr out

theorem argsP_len : ∀ (l : List Pc) (acc as : List ByteArray) (t : List Pc), argsP acc l = .inr (as, t) → t.length ≤ l.length
  | [], acc, as, t, h => by rw [argsP] at h; injection h with h; injection h with _ h; subst h; exact Nat.le_refl _
  | x :: l, acc, as, t, h => by
    rw [argsP] at h
    split at h
    · split at h
      · cases h
      · have := argsP_len l _ _ _ h
        rw [List.length_cons]; omega
    · injection h with h; injection h with _ h; subst h; exact Nat.le_refl _
theorem argsP_many : ∀ (l : List Pc) (acc as : List ByteArray) (t : List Pc), acc.length ≤ 16 → argsP acc l = .inr (as, t) → as.length ≤ 16
  | [], acc, as, t, h0, h => by rw [argsP] at h; injection h with h; injection h with h _; subst h; exact h0
  | x :: l, acc, as, t, h0, h => by
    rw [argsP] at h
    split at h
    · split at h
      · cases h
      · exact argsP_many l _ _ _ (by rw [List.length_append]; simp only [List.length_cons, List.length_nil]; omega) h
    · injection h with h; injection h with h _; subst h; exact h0
theorem tail_len {α : Type} (l : List α) : l.tail.length ≤ l.length := by cases l <;> simp
/-- what a statement leaves is shorter, if what 'go' leaves is not longer -/
theorem oneP_t_len {last : Int} {go : List Pc → (Int × Int) ⊕ (List Nd × List Pc)} {depth : Nat} {l : List Pc} {x : Nd} {t : List Pc} (hg : ∀ a b c, go a = .inr (b, c) → c.length ≤ a.length) (h : oneP_t last go depth l = .inr (x, t)) : t.length < l.length := by
  cases l with
  | nil => cases h
  | cons y l =>
    rw [oneP_t] at h
    split at h
    · cases h
    · cases ha : argsP [] l with
      | inl e => rw [ha] at h; cases h
      | inr p =>
        obtain ⟨as, t2⟩ := p
        rw [ha] at h
        have h1 := argsP_len _ _ _ _ ha
        have h2 := tail_len t2
        rw [List.length_cons]
        simp only at h
        split at h
        · injection h with h; injection h with _ h; subst h; omega
        · split at h
          · split at h
            · cases h
            · cases hq : go t2.tail with
              | inl e => rw [hq] at h; cases h
              | inr p =>
                obtain ⟨b, t3⟩ := p
                rw [hq] at h
                have h3 := hg _ _ _ hq
                have h4 := tail_len t3
                simp only at h
                injection h with h; injection h with _ h; subst h; omega
          · cases h
theorem listP_len (last : Int) : ∀ (f depth : Nat) (out : List Nd) (l : List Pc) (xs : List Nd) (t : List Pc), listP last f depth out l = .inr (xs, t) → t.length ≤ l.length
  | 0, depth, out, l, xs, t, h => by rw [listP] at h; injection h with h; injection h with _ h; subst h; exact Nat.le_refl _
  | f + 1, depth, out, l, xs, t, h => by
    rw [listP] at h
    split at h
    · injection h with h; injection h with _ h; subst h; exact Nat.le_refl _
    · cases ho : oneP_t last (listP last f (depth + 1) []) depth l with
      | inl e => rw [ho] at h; cases h
      | inr p =>
        obtain ⟨x, t2⟩ := p
        rw [ho] at h
        have h1 := oneP_t_len (fun a b c hh => listP_len last f _ _ _ _ _ hh) ho
        have h2 := listP_len last f _ _ _ _ _ h
        omega
/-- enough is enough -/
theorem oneP_t_congr {last : Int} {go go' : List Pc → (Int × Int) ⊕ (List Nd × List Pc)} {depth : Nat} {l : List Pc} (h : ∀ t, t.length < l.length → go t = go' t) : oneP_t last go depth l = oneP_t last go' depth l := by
  cases l with
  | nil => rfl
  | cons y l =>
    rw [oneP_t, oneP_t]
    cases ha : argsP [] l with
    | inl e => rfl
    | inr p =>
      obtain ⟨as, t2⟩ := p
      have h1 := argsP_len _ _ _ _ ha
      have h2 := tail_len t2
      simp only
      rw [h t2.tail (by rw [List.length_cons]; omega)]
theorem listP_fuel (last : Int) : ∀ (n f g depth : Nat) (out : List Nd) (l : List Pc), l.length ≤ n → l.length + 1 ≤ f → l.length + 1 ≤ g → listP last f depth out l = listP last g depth out l
  | n, 0, g, depth, out, l, hn, hf, hg => by omega
  | n, f + 1, 0, depth, out, l, hn, hf, hg => by omega
  | 0, f + 1, g + 1, depth, out, l, hn, hf, hg => by
    obtain rfl := List.eq_nil_of_length_eq_zero (Nat.le_zero.1 hn)
    rw [listP, listP]
    rfl
  | n + 1, f + 1, g + 1, depth, out, l, hn, hf, hg => by
    rw [listP, listP]
    split
    · rfl
    · have hc : oneP_t last (listP last f (depth + 1) []) depth l = oneP_t last (listP last g (depth + 1) []) depth l := oneP_t_congr fun t ht => listP_fuel last n f g _ _ _ (by omega) (by omega) (by omega)
      rw [hc]
      cases ho : oneP_t last (listP last g (depth + 1) []) depth l with
      | inl e => rfl
      | inr p =>
        obtain ⟨x, t2⟩ := p
        have h1 := oneP_t_len (fun a b c hh => listP_len last g _ _ _ _ _ hh) ho
        exact listP_fuel last n f g _ _ _ (by omega) (by omega) (by omega)

/-! one line further on -/
mutual
/-- the same, but for lines -/
def sameN : Nd → Nd → Prop
  | .mk k a b l _, .mk k' a' b' l' _ => k = k' ∧ a = a' ∧ b = b' ∧ sameL l l'
def sameL : List Nd → List Nd → Prop
  | [], [] => True
  | x :: xs, y :: ys => sameN x y ∧ sameL xs ys
  | _, _ => False
end
theorem sameL_snoc : ∀ (xs ys : List Nd) (x y : Nd), sameL xs ys → sameN x y → sameL (xs ++ [x]) (ys ++ [y])
  | [], [], x, y, _, h => by simp [sameL, h]
  | a :: xs, b :: ys, x, y, h, hx => by
    rw [sameL] at h
    rw [List.cons_append, List.cons_append, sameL]
    exact ⟨h.1, sameL_snoc xs ys x y h.2 hx⟩
  | [], b :: ys, x, y, h, _ => by rw [sameL] at h; exact h.elim; simp; simp
  | a :: xs, [], x, y, h, _ => by rw [sameL] at h; exact h.elim; simp; simp
theorem sameL_len : ∀ (xs ys : List Nd), sameL xs ys → xs.length = ys.length
  | [], [], _ => rfl
  | a :: xs, b :: ys, h => by rw [sameL] at h; rw [List.length_cons, List.length_cons, sameL_len xs ys h.2]
  | [], b :: ys, h => by rw [sameL] at h; exact h.elim; simp; simp
  | a :: xs, [], h => by rw [sameL] at h; exact h.elim; simp; simp
def shP (x : Pc) : Pc := ⟨x.kind, x.text, x.line + 1⟩
theorem kindP_sh (l : List Pc) : kindP (l.map shP) = kindP l := by cases l <;> rfl
theorem lineP_sh (last : Int) (l : List Pc) : lineP (last + 1) (l.map shP) = lineP last l + 1 := by cases l <;> rfl
theorem argsP_sh : ∀ (l : List Pc) (acc : List ByteArray), argsP acc (l.map shP) = match argsP acc l with | .inl e => .inl (e.1, e.2 + 1) | .inr p => .inr (p.1, p.2.map shP)
  | [], acc => by rw [List.map_nil, argsP]; rfl
  | x :: l, acc => by
    rw [List.map_cons, argsP, argsP]
    by_cases h : x.kind = 1 ∨ x.kind = 2
    · rw [if_pos h, if_pos (show (shP x).kind = 1 ∨ (shP x).kind = 2 from h)]
      by_cases h2 : acc.length = 16
      · rw [if_pos h2, if_pos h2]; rfl
      · rw [if_neg h2, if_neg h2]
        exact argsP_sh l _
    · rw [if_neg h, if_neg (show ¬ ((shP x).kind = 1 ∨ (shP x).kind = 2) from h)]
      rfl
/-- one line further on, and the same -/
def Far {α : Type} (R : α → α → Prop) (a b : (Int × Int) ⊕ (α × List Pc)) : Prop := match a, b with
  | .inl e, .inl e' => e' = (e.1, e.2 + 1)
  | .inr p, .inr q => R p.1 q.1 ∧ q.2 = p.2.map shP
  | _, _ => False
theorem map_tail (l : List Pc) : (l.map shP).tail = l.tail.map shP := by cases l <;> rfl
theorem oneP_sh {last : Int} {go go' : List Pc → (Int × Int) ⊕ (List Nd × List Pc)} {depth : Nat} {l : List Pc} (hg : ∀ t, Far sameL (go t) (go' (t.map shP))) : Far sameN (oneP_t last go depth l) (oneP_t (last + 1) go' depth (l.map shP)) := by
  cases l with
  | nil => rfl
  | cons x l =>
    rw [List.map_cons, oneP_t, oneP_t]
    by_cases h1 : x.kind = 1
    · rw [if_neg (by simp [h1]), if_neg (by simp [shP, h1]), argsP_sh]
      cases ha : argsP [] l with
      | inl e => rfl
      | inr p =>
        obtain ⟨as, t2⟩ := p
        simp only
        rw [kindP_sh, lineP_sh]
        by_cases h5 : kindP t2 = 5
        · rw [if_pos h5, if_pos h5]
          exact ⟨by simp [sameN, sameL, shP], map_tail t2⟩
        · rw [if_neg h5, if_neg h5]
          by_cases h3 : kindP t2 = 3
          · rw [if_pos h3, if_pos h3]
            by_cases h4 : depth = 4
            · rw [if_pos h4, if_pos h4]; rfl
            · rw [if_neg h4, if_neg h4, map_tail]
              have := hg t2.tail
              cases hq : go t2.tail with
              | inl e =>
                rw [hq] at this
                cases hq' : go' (t2.tail.map shP) with
                | inl e' => rw [hq'] at this; exact this
                | inr p' => rw [hq'] at this; exact this.elim
              | inr p =>
                rw [hq] at this
                cases hq' : go' (t2.tail.map shP) with
                | inl e' => rw [hq'] at this; exact this.elim
                | inr p' =>
                  rw [hq'] at this
                  obtain ⟨q1, q2⟩ := p
                  obtain ⟨r1, r2⟩ := p'
                  simp only [Far] at this ⊢
                  exact ⟨by simp [sameN, shP, this.1], by rw [this.2, map_tail]⟩
          · rw [if_neg h3, if_neg h3]; rfl
    · rw [if_pos h1, if_pos (show (shP x).kind ≠ 1 from h1)]; rfl
theorem doneP_sh (depth : Nat) (l : List Pc) : doneP depth (l.map shP) = doneP depth l := by unfold doneP; rw [kindP_sh]
theorem listP_sh (last : Int) : ∀ (f depth : Nat) (out out' : List Nd) (l : List Pc), sameL out out' → Far sameL (listP last f depth out l) (listP (last + 1) f depth out' (l.map shP))
  | 0, depth, out, out', l, h => ⟨h, rfl⟩
  | f + 1, depth, out, out', l, h => by
    rw [listP, listP, doneP_sh]
    by_cases hd : doneP depth l = true
    · rw [if_pos hd, if_pos hd]; exact ⟨h, rfl⟩
    · rw [if_neg hd, if_neg hd]
      have := oneP_sh (last := last) (depth := depth) (l := l) (go := listP last f (depth + 1) []) (go' := listP (last + 1) f (depth + 1) []) (fun t => listP_sh last f (depth + 1) [] [] t (by simp [sameL]))
      cases hq : oneP_t last (listP last f (depth + 1) []) depth l with
      | inl e =>
        rw [hq] at this
        cases hq' : oneP_t (last + 1) (listP (last + 1) f (depth + 1) []) depth (l.map shP) with
        | inl e' => rw [hq'] at this; exact this
        | inr p' => rw [hq'] at this; exact this.elim
      | inr p =>
        rw [hq] at this
        cases hq' : oneP_t (last + 1) (listP (last + 1) f (depth + 1) []) depth (l.map shP) with
        | inl e' => rw [hq'] at this; exact this.elim
        | inr p' =>
          rw [hq'] at this
          obtain ⟨q1, q2⟩ := p
          obtain ⟨r1, r2⟩ := p'
          simp only [Far] at this ⊢
          obtain ⟨h1, rfl⟩ := this
          exact listP_sh last f depth _ _ q2 (sameL_snoc _ _ _ _ h h1)
/-- pieces, one line further on -/
theorem skipP_sh (l : List UInt8) : ∀ (note : Bool) (ln : Int), skipP note (ln + 1) l = ((skipP note ln l).1 + 1, (skipP note ln l).2) := by
  induction l with
  | nil => intro note ln; rw [skipP, skipP]
  | cons c t ih =>
    intro note ln
    rw [skipP, skipP]
    split
    · exact ih false (ln + 1)
    · split
      · exact ih note ln
      · split
        · exact ih true ln
        · rfl
theorem readP_sh : ∀ (f : Nat) (ln : Int) (l : List UInt8) (out : List Pc), readP f (ln + 1) l (out.map shP) = match readP f ln l out with | .inl e => .inl (e.1, e.2 + 1) | .inr xs => .inr (xs.map shP)
  | 0, ln, l, out => rfl
  | f + 1, ln, l, out => by
    rw [readP, readP, skipP_sh]
    obtain ⟨q, hq⟩ : ∃ q, q = skipP false ln l := ⟨_, rfl⟩
    rw [← hq]
    obtain ⟨q1, q2⟩ := q
    simp only
    by_cases h1 : q2 = []
    · rw [if_pos h1, if_pos h1]
    · rw [if_neg h1, if_neg h1, List.length_map]
      by_cases h2 : out.length = 8192
      · rw [if_pos h2, if_pos h2]
      · rw [if_neg h2, if_neg h2]
        cases ho : oneP q2 with
        | none => rfl
        | some p =>
          obtain ⟨k, t, r⟩ := p
          simp only
          have := readP_sh f q1 r (out ++ [⟨k, str t, q1⟩])
          rw [List.map_append] at this
          exact this
theorem lastP_sh (l : List Pc) (h : l ≠ []) : lastP (l.map shP) = lastP l + 1 := by
  unfold lastP
  rw [List.getLast?_map]
  obtain ⟨x, hx⟩ : ∃ x, l.getLast? = some x := by
    cases hl : l.getLast? with
    | none => exact absurd (List.getLast?_eq_none_iff.1 hl) h
    | some x => exact ⟨x, rfl⟩
  rw [hx]
  rfl
end Go.Proofs.YtemjbblehiaobaaDoor
