/-
  An append of many elements out of another own slice, in a walk with a fence (a round). No program in sight.
-/
import Derived.Test.YtdbnalocmjkncaaGreatDoorQGround2
import Derived.OwnWalkIn
namespace Go.Proofs.YtdbnalocmjkncaaGreatDoor
open Go.RowKit

section
variable {P : Program} {α : Type}
theorem run_append_many (R : α → List Value) (size : Nat) (hR : ∀ x, (R x).length = size) (hsz : 0 < size) (h1 : ∀ x, ∀ u ∈ R x, u.oneCell' = true) {w : World} (t ot : TypeId)
    (B B2 : Nat) (e : TypeId) (z : Value) (bytes : Nat) (ht : P.underlying t = some (.slice e))
    (hi : (P.info? e).map (fun i => (i.zero, i.size, i.bytes)) = some (some z, size, bytes)) (hz : z.cells.size = size) (hb16 : bytes ≤ 4096)
    (v v2 : Value) (xs ys : List α) (hown : OwnS R size w B e v xs) (hown2 : OwnS R size w B2 e v2 ys)
    (hlen : xs.length + ys.length ≤ 17179869184) (hbase : B ≤ w.heap.size) :
    ∃ v' w', (Builtin.append_ #[t, t] ot #[v, v2]).run P w = .ok v' w' ∧ OwnS R size w' B e v' (xs ++ ys) ∧ Keeps (fun i => v.ownBlock = some i) w w' := by
  obtain ⟨i, hi0, hzi, hsi, hbi⟩ := info_parts hi
  obtain ⟨a2, c2, hv2, hle2, -, hne2, hcl2⟩ := hown2.shape hR
  subst hv2
  cases ys with
  | nil =>
    obtain ⟨a1, c1, rfl, hle1, -, -, -⟩ := hown.shape hR
    refine ⟨.slice a1 xs.length c1, w, ?_, by simpa using hown, Keeps.refl _ _⟩
    cases a2 with
    | none => exact run_append_nothing w t t ot e i ht hi0 a1 xs.length c1 hle1 _ (Src.ofNil w ht c2)
    | some ad => exact run_append_nothing w t t ot e i ht hi0 a1 xs.length c1 hle1 _ (Src.ofSlice w ht ad 0 c2 [] (by simp) (fun j u hj => by simp at hj) (fun u hu => by cases hu))
  | cons y r =>
    obtain ⟨g, rfl, -, -, -⟩ := hne2 (by simp)
    obtain ⟨v', w', hrun, h2, h3, -⟩ := run_append_own (P := P) w B t ot e i z size bytes ht hi0 hzi hsi hbi hz hsz v xs.length _ hown ⟨g, 0, none⟩ (y :: r).length c2 ((y :: r).map R).flatten (by rw [flat_len hR]) (by
      intro j u hj
      have hjl : j < (y :: r).length * size := by rw [← flat_len hR]; exact (List.getElem?_eq_some_iff.1 hj).1
      obtain ⟨q, hq⟩ : ∃ q, q = j / size := ⟨_, rfl⟩
      have hjq : j = q * size + j % size := by rw [hq, Nat.mul_comm]; exact (Nat.div_add_mod j size).symm
      have hql : q < (y :: r).length := by rw [hq]; exact Nat.div_lt_of_lt_mul (by rw [Nat.mul_comm]; exact hjl)
      obtain ⟨x0, hx0⟩ : ∃ x0, (y :: r)[q]? = some x0 := ⟨_, List.getElem?_eq_getElem hql⟩
      have hml : j % size < (R x0).length := by rw [hR]; exact Nat.mod_lt _ hsz
      obtain ⟨u0, hu0⟩ : ∃ u0, (R x0)[j % size]? = some u0 := ⟨_, List.getElem?_eq_getElem hml⟩
      have h5 := flat_get hR (y :: r) q x0 (j % size) u0 hx0 hu0
      rw [← hjq] at h5
      rw [h5] at hj
      injection hj with hj
      subst hj
      have h6 := (hcl2 g rfl q x0 (j % size) u0 hx0 hu0).1
      rw [← hjq] at h6
      rw [Addr.add_lit, Nat.zero_add]
      exact h6) (by
      intro u hu
      obtain ⟨l, hl, hul⟩ := List.mem_flatten.1 hu
      obtain ⟨x0, _, rfl⟩ := List.mem_map.1 hl
      exact h1 x0 u hul) (by unfold maxLen; omega) (by
      have := Nat.mul_le_mul (show xs.length + (y :: r).length ≤ 17179869184 by omega) hb16
      omega) hbase
    refine ⟨v', w', hrun, ?_, (Keeps.refl _ _).grown h3 (fun k hk _ => hk)⟩
    unfold OwnS
    rw [List.map_append, List.flatten_append, List.length_append]
    exact h2
/-- the same as a step of a walk with a fence -/
theorem wpListIn_append_many {F : Fence} {n : Nat} (R : α → List Value) (size : Nat) (hR : ∀ x, (R x).length = size) (hsz : 0 < size) (h1 : ∀ x, ∀ u ∈ R x, u.oneCell' = true) {w : World} {ops : Array Oper} {rest : List Oper} {o : Oper} {a : Act} {Q : Exit → Act → World → Prop} (hgd : o.guard = none) (s x : Operand) (t : TypeId)
    (ho : o.op = .call { callee := .builtin .append, args := #[s, x], argTypes := #[t, t] }) (B B2 : Nat) (e : TypeId) (z : Value) (bytes : Nat) (ht : P.underlying t = some (.slice e))
    (hi : (P.info? e).map (fun i => (i.zero, i.size, i.bytes)) = some (some z, size, bytes)) (hz : z.cells.size = size) (hb16 : bytes ≤ 4096)
    (v v2 : Value) (xs ys : List α) (hs : a.eval s = v) (hown : OwnS R size w B e v xs) (hx : a.eval x = v2) (hown2 : OwnS R size w B2 e v2 ys)
    (hlen : xs.length + ys.length ≤ 17179869184) (hbase : B ≤ w.heap.size)
    (h : ∀ v' w', OwnS R size w' B e v' (xs ++ ys) → Keeps (fun i => v.ownBlock = some i) w w' → wpListIn F n P ops Q rest (a.put o.dst v') w') : wpListIn F n P ops Q (o :: rest) a w := by
  refine wpListIn_plain hgd fun K hK => ?_
  obtain ⟨v', w', hrun, h2, h3⟩ := run_append_many (P := P) R size hR hsz h1 t o.type B B2 e z bytes ht hi hz hb16 v v2 xs ys hown hown2 hlen hbase
  unfold Oper.wpIn
  refine ⟨?_, ?_⟩
  · simp [Oper.about, ho, resolve, Target.leads, Sem.run_pure]
  · rw [Oper.semAt_plain F _ _ (by rw [ho]; intro c hc'; cases hc')]
    simp [execOp, ho, resolve, invoke, builtin, hs, hx, hrun, Result.andThen]
    exact hK _ _ (h v' w' h2 h3)
end
end Go.Proofs.YtdbnalocmjkncaaGreatDoor
