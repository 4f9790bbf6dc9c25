/-
  The pieces of a text, as functions on lists of bytes. No program in sight.
-/
import Derived.Test.YtemjbblehiaobaaDoorBase
namespace Go.Proofs.YtemjbblehiaobaaDoor
open Go.RowKit

/-- may a byte stand in a word? -/
def plainN (n : Nat) : Bool := decide (32 < n) && decide (n ≤ 126) && !decide (n = 123 ∨ n = 125 ∨ n = 59 ∨ n = 34 ∨ n = 35 ∨ n = 92)
def plainB (c : UInt8) : Bool := plainN c.toNat
/-- does a byte stand between pieces? -/
def blankB (c : UInt8) : Bool := decide (c.toNat = 32 ∨ c.toNat = 9 ∨ c.toNat = 13 ∨ c.toNat = 10)
/-- may a text be a word? -/
def wordyP (l : List UInt8) : Bool := decide (l ≠ []) && l.all plainB
/-- what stands between pieces is passed -/
def skipP : Bool → Int → List UInt8 → Int × List UInt8
  | _, line, [] => (line, [])
  | note, line, c :: t => if c.toNat = 10 then skipP false (line + 1) t else if note || blankB c then skipP note line t else if c.toNat = 35 then skipP true line t else (line, c :: t)
/-- a text within quotes, from behind the first quote on -/
def quoteP : List UInt8 → List UInt8 → Option (List UInt8 × List UInt8)
  | _, [] => none
  | acc, c :: t => if c.toNat = 34 then some (acc, t) else if c.toNat = 92 then (match t with | d :: u => if d.toNat = 34 ∨ d.toNat = 92 then quoteP (acc ++ [d]) u else none | [] => none) else if c.toNat < 32 ∨ 126 < c.toNat then none else quoteP (acc ++ [c]) t
/-- a piece: its kind, what it says, its line -/
structure Pc where
  kind : Int
  text : ByteArray
  line : Int
def pcR (x : Pc) : List Value := [.int .i64 x.kind, .string x.text, .int .i64 x.line]
theorem pcR_len (x : Pc) : (pcR x).length = 3 := rfl
theorem pcR_one (x : Pc) : ∀ u ∈ pcR x, u.oneCell' = true := by
  intro u hu; simp [pcR] at hu; rcases hu with rfl | rfl | rfl <;> rfl
/-- the piece that begins there: kind, text, rest -/
def oneP : List UInt8 → Option (Int × List UInt8 × List UInt8)
  | [] => none
  | c :: t => if c.toNat = 123 then some (3, [], t) else if c.toNat = 125 then some (4, [], t) else if c.toNat = 59 then some (5, [], t)
    else if c.toNat = 34 then (quoteP [] t).map fun x => (2, x.1, x.2)
    else if plainB c then some (1, (c :: t).takeWhile plainB, (c :: t).dropWhile plainB) else none
/-- all pieces behind those that are there; or the code, and the line -/
def readP : Nat → Int → List UInt8 → List Pc → (Int × Int) ⊕ List Pc
  | 0, _, _, out => .inr out
  | f + 1, line, l, out =>
    let (line, l) := skipP false line l
    if l = [] then .inr out
    else if out.length = 8192 then .inl (15, line)
    else match oneP l with
      | none => .inl (3, line)
      | some (k, t, r) => readP f line r (out ++ [⟨k, str t, line⟩])
/-- the pieces of a text -/
def lexP (s : List UInt8) : (Int × Int) ⊕ List Pc := if 65536 < s.length then .inl (5, 0) else readP (s.length + 1) 1 s []
/-- a text within quotes, as it is put -/
def quotedP (l : List UInt8) : List UInt8 := l.flatMap fun c => if c.toNat = 34 ∨ c.toNat = 92 then [92, c] else [c]
def seenB (c : UInt8) : Bool := decide (32 ≤ c.toNat ∧ c.toNat ≤ 126)
/-- a piece as text: text and code -/
def putP_lexm (kind : Int) (t : List UInt8) : List UInt8 × Int :=
  if kind = 1 then (if wordyP t then (t, 0) else ([], 3))
  else if kind = 2 then (if t.all seenB then (34 :: (quotedP t ++ [34]), 0) else ([], 3))
  else if 3 ≤ kind ∧ kind ≤ 5 then (if t = [] then ([([123, 125, 59] : List UInt8).getD (kind - 3).toNat 0], 0) else ([], 3))
  else ([], 1)

theorem quoteP_nil (acc : List UInt8) : quoteP acc [] = none := by unfold quoteP; rfl
theorem quoteP_cons (acc : List UInt8) (c : UInt8) (t : List UInt8) : quoteP acc (c :: t) = if c.toNat = 34 then some (acc, t) else if c.toNat = 92 then (match t with | d :: u => if d.toNat = 34 ∨ d.toNat = 92 then quoteP (acc ++ [d]) u else none | [] => none) else if c.toNat < 32 ∨ 126 < c.toNat then none else quoteP (acc ++ [c]) t := by
  conv => lhs; unfold quoteP
theorem skipP_len (l : List UInt8) : ∀ (note : Bool) (line : Int), (skipP note line l).2.length ≤ l.length := by
  induction l with
  | nil => intro note line; simp [skipP]
  | cons c t ih =>
    intro note line
    unfold skipP
    split
    · have := ih false (line + 1); simp; omega
    · split
      · have := ih note line; simp; omega
      · split
        · have := ih true line; simp; omega
        · simp
theorem skipP_line (l : List UInt8) : ∀ (note : Bool) (line : Int), line ≤ (skipP note line l).1 ∧ (skipP note line l).1 + (skipP note line l).2.length ≤ line + l.length := by
  induction l with
  | nil => intro note line; simp [skipP]
  | cons c t ih =>
    intro note line
    unfold skipP
    split
    · have := ih false (line + 1); simp; omega
    · split
      · have := ih note line; simp; omega
      · split
        · have := ih true line; simp; omega
        · simp
theorem quoteP_len : ∀ (l acc : List UInt8) (x : List UInt8 × List UInt8), quoteP acc l = some x → x.2.length < l.length ∧ x.1.length ≤ acc.length + l.length
  | [], acc, x, h => by simp [quoteP] at h
  | c :: t, acc, x, h => by
    unfold quoteP at h
    split at h
    · injection h with h; subst h; simp
    · split at h
      · match t, h with
        | [], h => simp at h
        | d :: u, h =>
          simp only at h
          split at h
          · have := quoteP_len u (acc ++ [d]) x h
            simp at this ⊢; omega
          · simp at h
      · split at h
        · simp at h
        · have := quoteP_len t (acc ++ [c]) x h
          simp at this ⊢; omega
theorem drop_while_len (p : UInt8 → Bool) (l : List UInt8) : (l.dropWhile p).length ≤ l.length ∧ (l.takeWhile p).length ≤ l.length := by
  induction l with
  | nil => simp
  | cons c t ih => simp only [List.dropWhile_cons, List.takeWhile_cons]; split <;> simp <;> omega
theorem oneP_len (l : List UInt8) (k : Int) (t r : List UInt8) (h : oneP l = some (k, t, r)) : r.length < l.length ∧ t.length ≤ l.length := by
  cases l with
  | nil => simp [oneP] at h
  | cons c u =>
    simp only [oneP] at h
    repeat' (split at h)
    all_goals first | (simp at h; done) | skip
    · injection h with h; injection h with _ h; injection h with h1 h2; subst h1 h2; simp
    · injection h with h; injection h with _ h; injection h with h1 h2; subst h1 h2; simp
    · injection h with h; injection h with _ h; injection h with h1 h2; subst h1 h2; simp
    · rw [Option.map_eq_some_iff] at h
      obtain ⟨x, hx, h⟩ := h
      injection h with _ h; injection h with h1 h2; subst h1 h2
      have := quoteP_len u [] x hx
      simp at this ⊢; omega
    · rename_i hp
      injection h with h; injection h with _ h; injection h with h1 h2; subst h1 h2
      have h3 := drop_while_len plainB u
      rw [List.dropWhile_cons, List.takeWhile_cons, hp]
      simp; omega
end Go.Proofs.YtemjbblehiaobaaDoor
