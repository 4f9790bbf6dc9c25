/-
  The document's answer on a tail (wheelhouseref05, wheelhouseref20, wheelhouseref23), and restore.Tail.
-/
import Derived.Test.YtdbnalocmjkncaaGreatDoorQGround1
import Derived.Test.YtdbnalocmjkncaaGreatDoorQRecF
namespace Go.Proofs.YtdbnalocmjkncaaGreatDoor
open Go.RowKit

/-- what the console told -/
def dataP (xs : List Itm) : List UInt8 := xs.flatMap fun x => if x.kind = 1 then x.body.data.toList else []
theorem dataP_snoc (xs : List Itm) (x : Itm) : dataP (xs ++ [x]) = dataP xs ++ (if x.kind = 1 then x.body.data.toList else []) := by unfold dataP; simp
theorem dataP_take {l : List Itm} {i : Nat} {x : Itm} (h : l[i]? = some x) : dataP (l.take (i + 1)) = dataP (l.take i) ++ (if x.kind = 1 then x.body.data.toList else []) := by rw [itm_take h, dataP_snoc]
theorem dataP_len {z : Nat} : ∀ {xs : List Itm}, (∀ x ∈ xs, x.body.size ≤ z) → (dataP xs).length ≤ xs.length * z
  | [], _ => by simp [dataP]
  | x :: xs, h => by
    have ih := dataP_len fun y hy => h y (List.mem_cons_of_mem _ hy)
    have hx := h x (List.mem_cons_self ..)
    have e : dataP (x :: xs) = (if x.kind = 1 then x.body.data.toList else []) ++ dataP xs := by unfold dataP; simp
    have hl : x.body.data.toList.length = x.body.size := by simp
    rw [e, List.length_append, List.length_cons, Nat.succ_mul]
    split
    · omega
    · simp only [List.length_nil]; omega
theorem tail_skip {b n : Nat} {l : List UInt8} {i : Nat} (hi : i < l.length) (h : fitB b n (l.drop i) = false) : tailP b n (l.drop i) = tailP b n (l.drop (i + 1)) := by
  have e := List.drop_eq_getElem_cons hi
  rw [e] at h ⊢
  rw [tailP, if_neg (by rw [h]; simp)]
theorem tail_hit {b n : Nat} {l : List UInt8} {i : Nat} (hi : i < l.length) (h : fitB b n (l.drop i) = true) : tailP b n (l.drop i) = l.drop i := by
  have e := List.drop_eq_getElem_cons hi
  rw [e] at h ⊢
  rw [tailP, if_pos h]
end Go.Proofs.YtdbnalocmjkncaaGreatDoor
