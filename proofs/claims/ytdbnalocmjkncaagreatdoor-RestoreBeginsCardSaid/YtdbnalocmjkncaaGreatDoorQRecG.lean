/-
  The items of all generations (wheelhouseref22.Load), and whether items are a piece of a row (Within).
-/
import Derived.Test.YtdbnalocmjkncaaGreatDoorQRecF
import Derived.Test.YtdbnalocmjkncaaGreatDoorQGround2
namespace Go.Proofs.YtdbnalocmjkncaaGreatDoor
open Go.RowKit

theorem load_snoc {ds : List ByteArray} {i : Nat} {d : ByteArray} (h : ds[i]? = some d) : loadP (ds.take (i + 1)) = loadP (ds.take i) ++ scanI d.data.toList := by
  rw [take_snoc10 h, load_app, load_one]
theorem load_len {ds : List ByteArray} {z : Nat} (h : ∀ d ∈ ds, d.size ≤ z) : (loadP ds).length ≤ ds.length * z := by
  induction ds with
  | nil => simp [loadP]
  | cons d ds ih =>
    have e : loadP (d :: ds) = scanI d.data.toList ++ loadP ds := by unfold loadP; rw [List.flatMap_cons]
    have h1 := scan_len d.data.toList
    have h2 : d.data.toList.length = d.size := by simp
    have h3 := h d (List.mem_cons_self ..)
    have h4 := ih fun x hx => h x (List.mem_cons_of_mem _ hx)
    rw [e, List.length_append, List.length_cons, Nat.succ_mul]
    omega
/-- a part of a row -/
theorem SlAt.part {w : World} {a : Option Addr} {n : Nat} {l : List Itm} (h : SlAt itmR 3 w a n l) {k m : Nat} (hk : k + m ≤ n) : (m = 0 ∧ ∀ a', SlAt itmR 3 w a' 0 ((l.drop k).take m)) ∨ (0 < m ∧ ∃ b off, a = some ⟨b, off, none⟩ ∧ SlAt itmR 3 w (some ⟨b, off + k * 3, none⟩) m ((l.drop k).take m)) := by
  have hl := h.1
  by_cases hm : m = 0
  · subst hm
    exact .inl ⟨rfl, fun a' => ⟨by simp, fun h => absurd h (by omega)⟩⟩
  · obtain ⟨b, off, ha, hb, hc⟩ := h.2 (by omega)
    refine .inr ⟨by omega, b, off, ha, by rw [List.length_take, List.length_drop]; omega, fun _ => ⟨b, off + k * 3, rfl, hb, fun i x j v hx hv => ?_⟩⟩
    have hlt : i < ((l.drop k).take m).length := (List.getElem?_eq_some_iff.1 hx).1
    rw [List.length_take] at hlt
    rw [List.getElem?_take, if_pos (by omega), List.getElem?_drop] at hx
    have := hc (k + i) x j v hx hv
    rw [← this]
    congr 2
    rw [Nat.add_mul]; omega
end Go.Proofs.YtdbnalocmjkncaaGreatDoor
