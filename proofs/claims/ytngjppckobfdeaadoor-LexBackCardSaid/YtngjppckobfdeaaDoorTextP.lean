/-
  What errors say, as lists of bytes: lengths, ends, and the document's way of saying it. No program in sight.
-/
import Derived.Test.YtngjppckobfdeaaDoorDec
import Derived.Lib.Join
namespace Go.Proofs.YtngjppckobfdeaaDoor
open Go.RowKit

theorem join_two (x : List UInt8) (y : List UInt8) (r : List (List UInt8)) (sep : List UInt8) : Lib.join (x :: y :: r) sep = x ++ sep ++ Lib.join (y :: r) sep := by
  simp [Lib.join, List.intercalate]
theorem join_suffix (a b : List (List UInt8)) (sep : List UInt8) : ∃ p, Lib.join (a ++ b) sep = p ++ Lib.join b sep := by
  induction a with
  | nil => exact ⟨[], rfl⟩
  | cons x a ih =>
    obtain ⟨p, hp⟩ := ih
    rw [List.cons_append]
    cases h : a ++ b with
    | nil =>
      have hb : b = [] := (List.append_eq_nil_iff.1 h).2
      subst hb
      exact ⟨Lib.join [x] sep, by simp [Lib.join, List.intercalate]⟩
    | cons y r =>
      rw [h] at hp
      exact ⟨x ++ sep ++ p, by rw [join_two, hp, List.append_assoc (x ++ sep)]⟩
theorem join_len (a : List (List UInt8)) (sep : List UInt8) : (Lib.join a sep).length ≤ (a.map List.length).sum + sep.length * a.length := by
  induction a with
  | nil => simp [Lib.join, List.intercalate]
  | cons x a ih =>
    cases a with
    | nil => simp [Lib.join, List.intercalate]
    | cons y r =>
      rw [join_two]
      simp only [List.length_append, List.map_cons, List.sum_cons, List.length_cons] at ih ⊢
      rw [Nat.mul_add sep.length (r.length + 1) 1] 
      omega
theorem join_snoc (a : List (List UInt8)) (x sep : List UInt8) (h : a ≠ []) : Lib.join (a ++ [x]) sep = Lib.join a sep ++ sep ++ x := by
  induction a with
  | nil => exact absurd rfl h
  | cons y a ih =>
    cases a with
    | nil => simp [Lib.join, List.intercalate]
    | cons z r =>
      rw [List.cons_append, List.cons_append, join_two, ← List.cons_append, ih (by simp), join_two]
      simp only [List.append_assoc]
theorem join_ne (a : List (List UInt8)) (sep : List UInt8) (h : ∀ x ∈ a, x ≠ []) : Lib.join a sep = [] ↔ a = [] := by
  constructor
  · intro e
    cases a with
    | nil => rfl
    | cons x a =>
      exfalso
      have hx := h x (by simp)
      cases a with
      | nil => simp [Lib.join, List.intercalate] at e; exact hx e
      | cons y r => rw [join_two] at e; simp at e; exact hx e.1
  · rintro rfl; rfl

/-- a text with one more behind -/
def withP (s t : List UInt8) : List UInt8 := if s = [] ∨ t = [] then s ++ t else s ++ [58, 32] ++ t
theorem withP_join (a : List (List UInt8)) (t : List UInt8) (h : ∀ x ∈ a, x ≠ []) : withP (Lib.join a [58, 32]) t = Lib.join (a ++ if t = [] then [] else [t]) [58, 32] := by
  unfold withP
  by_cases ht : t = []
  · subst ht; simp
  · rw [if_neg ht]
    by_cases ha : a = []
    · subst ha
      rw [if_pos (.inl rfl)]
      simp [Lib.join, List.intercalate]
    · rw [if_neg (by rintro (e | e); exact ha ((join_ne a _ h).1 e); exact ht e), join_snoc a t _ ha]
end Go.Proofs.YtngjppckobfdeaaDoor
