/-
  Append of a part of another row of structs.
-/
import Derived.Test.YtfpajgmdejlaeaaGreatDoorQGround2
namespace Go.Proofs.YtfpajgmdejlaeaaGreatDoor
open Go.RowKit

section
variable {α : Type} {R : α → List Value} {size : Nat}
/-- a slice value that reads as these elements -/
def SrcS (R : α → List Value) (_size : Nat) (w : World) (v : Value) (ys : List α) : Prop :=
  ∃ a c, v = .slice a ys.length c ∧ (ys = [] ∨ ∃ ad, a = some ad ∧ ∀ j u, (ys.map R).flatten[j]? = some u → w.cell? (ad.add j) = some u)
theorem SrcS.nil_ (w : World) (a : Option Addr) (c : Nat) : SrcS R size w (.slice a 0 c) [] := ⟨a, c, rfl, .inl rfl⟩
end
section
variable {P : Program} {α : Type}
theorem run_append_src (R : α → List Value) (size : Nat) (hR : ∀ x, (R x).length = size) (hsz : 0 < size) (w : World) (t ty : TypeId) (B : Nat) (e : TypeId) (z : Value) (bytes : Nat) (ht : P.underlying t = some (.slice e))
    (hi : (P.info? e).map (fun i => (i.zero, i.size, i.bytes)) = some (some z, size, bytes)) (hz : z.cells.size = size) (hb16 : bytes ≤ 4096)
    (v : Value) (xs : List α) (hown : OwnS R size w B e v xs) (s : Value) (ys : List α) (hsrc : SrcS R size w s ys) (h1 : ∀ y, ∀ u ∈ R y, u.oneCell' = true)
    (hlen : xs.length + ys.length ≤ 17179869184) (hbase : B ≤ w.heap.size) :
    ∃ v' w', (Builtin.append_ #[t, t] ty #[v, s]).run P w = .ok v' w' ∧ OwnS R size w' B e v' (xs ++ ys) ∧ Keeps (fun i => B ≤ i ∧ ∃ cs, Blk w i e cs) w w' := by
  obtain ⟨i, hi0, hzi, hsi, hbi⟩ := info_parts hi
  obtain ⟨a, c, rfl, hs⟩ := hsrc
  cases a with
  | none =>
    obtain rfl : ys = [] := by
      rcases hs with h | ⟨ad, h, _⟩
      · exact h
      · cases h
    obtain ⟨b, cap, rfl, hcap, -, hb, -⟩ := hown.shape hR
    refine ⟨.slice b xs.length cap, w, ?_, by rw [List.append_nil]; exact hown, Keeps.refl _ _⟩
    cases b with
    | none =>
      have hn : xs.length = 0 := by
        rcases Nat.eq_zero_or_pos xs.length with h | h
        · exact h
        · obtain ⟨g, hg, _⟩ := hb h; cases hg
      rw [hn]
      simp [Builtin.append_, run_underlying ht, sizeOf, typeInfo, hi0, Builtin.lenOf, Builtin.firstCells]
    | some b => simp [Builtin.append_, run_underlying ht, sizeOf, typeInfo, hi0, Builtin.lenOf, Builtin.firstCells, loadCells, storeCells, hcap]
  | some ad =>
    obtain ⟨v', w', hrun, h2, h3, -⟩ := run_append_own (P := P) w B t ty e i z size bytes ht hi0 hzi hsi hbi hz hsz v xs.length _ hown ad ys.length c (ys.map R).flatten (by rw [flat_len hR]) (by
      rcases hs with rfl | ⟨ad', ha, hc⟩
      · intro j u hj; simp at hj
      · injection ha with ha; subst ha; exact hc) (fun u hu => by
        obtain ⟨l, hl, hu⟩ := List.mem_flatten.1 hu
        obtain ⟨y, _, rfl⟩ := List.mem_map.1 hl
        exact h1 y u hu) (by unfold maxLen; omega) (by
      have := Nat.mul_le_mul hlen hb16
      omega) hbase
    exact ⟨v', w', hrun, by unfold OwnS; rw [List.map_append, List.flatten_append, List.length_append]; exact h2, (Keeps.refl _ _).grown h3 (fun k hk _ => ⟨(hown.lt k hk).1, hown.ownBlk k hk⟩)⟩

theorem wpList_append_src (R : α → List Value) (size : Nat) (hR : ∀ x, (R x).length = size) (hsz : 0 < size) {w : World} {ops : Array Oper} {rest : List Oper} {o : Oper} {a : Act} {Q : Exit → Act → World → Prop} (hgd : o.guard = none) (s x : Operand) (t : TypeId)
    (ho : o.op = .call { callee := .builtin .append, args := #[s, x], argTypes := #[t, t] }) (B : Nat) (e : TypeId) (z : Value) (bytes : Nat) (ht : P.underlying t = some (.slice e))
    (hi : (P.info? e).map (fun i => (i.zero, i.size, i.bytes)) = some (some z, size, bytes)) (hz : z.cells.size = size) (hb16 : bytes ≤ 4096)
    (v : Value) (xs : List α) (hs : a.eval s = v) (hown : OwnS R size w B e v xs) (sv : Value) (ys : List α) (hx : a.eval x = sv) (hsrc : SrcS R size w sv ys) (h1 : ∀ y, ∀ u ∈ R y, u.oneCell' = true)
    (hlen : xs.length + ys.length ≤ 17179869184) (hbase : B ≤ w.heap.size)
    (h : ∀ v' w', OwnS R size w' B e v' (xs ++ ys) → Keeps (fun i => B ≤ i ∧ ∃ cs, Blk w i e cs) w w' → wpList P ops Q rest (a.put o.dst v') w') : wpList P ops Q (o :: rest) a w := by
  refine wpList_plain hgd fun K hK => ?_
  obtain ⟨v', w', hrun, h2, h3⟩ := run_append_src R size hR hsz w t o.type B e z bytes ht hi hz hb16 v xs hown sv ys hsrc h1 hlen hbase
  unfold Oper.wp
  simp only [execOp, ho, resolve, invoke, builtin, Sem.run_bind, Sem.run_pure, Result.andThen_ok, List.map_toArray, List.map_cons, List.map_nil, hs, hx, hrun]
  exact hK _ _ (h v' w' h2 h3)

variable {R : α → List Value} {size : Nat} {w : World} {B : Nat} {e : TypeId} {xs : List α}
/-- a row's first k -/
theorem OwnS.srcTake {a : Option Addr} {n c : Nat} (h : OwnS R size w B e (.slice a n c) xs) (hR : ∀ x, (R x).length = size) {k : Nat} (hk : k ≤ xs.length) (c' : Nat) : SrcS R size w (.slice a k c') (xs.take k) := by
  refine ⟨a, c', by rw [List.length_take, Nat.min_eq_left hk], ?_⟩
  rcases Nat.eq_zero_or_pos k with rfl | hk0
  · exact .inl (by simp)
  · rcases h.2 with ⟨_, h2⟩ | ⟨g, cap, cur, h0, hg, hh, h1, h2, h3, h4⟩
    · omega
    · injection h0 with h0 _ _
      subst h0
      refine .inr ⟨_, rfl, fun j u hj => ?_⟩
      have hf : (xs.map R).flatten[j]? = some u := by
        rw [← List.take_append_drop k xs, List.map_append, List.flatten_append, List.getElem?_append_left (List.getElem?_eq_some_iff.1 hj).1]
        exact hj
      have hl : j < xs.length * size := by rw [← flat_len hR xs]; exact (List.getElem?_eq_some_iff.1 hf).1
      have e0 : (⟨g, 0, none⟩ : Addr).add j = ⟨g, j, none⟩ := by by_cases h0 : j = 0 <;> simp [Addr.add, h0]
      rw [e0, cell_of_row w g _ cur e (0, 0) hh, ← hf, ← h4, List.getElem?_take, if_pos hl]
      simp
/-- what is behind a row's first k -/
theorem OwnS.srcDrop {a : Option Addr} {n c : Nat} (h : OwnS R size w B e (.slice a n c) xs) (hR : ∀ x, (R x).length = size) {k : Nat} (hk : k < xs.length) (c' : Nat) : ∃ ad, a = some ad ∧ SrcS R size w (.slice (some (ad.add (k * size))) (xs.length - k) c') (xs.drop k) := by
  rcases h.2 with ⟨_, h2⟩ | ⟨g, cap, cur, h0, hg, hh, h1, h2, h3, h4⟩
  · omega
  · injection h0 with h0 _ _
    subst h0
    refine ⟨_, rfl, _, c', by rw [List.length_drop], .inr ⟨_, rfl, fun j u hj => ?_⟩⟩
    have hf : (xs.map R).flatten[k * size + j]? = some u := by
      rw [← List.take_append_drop k xs, List.map_append, List.flatten_append, List.getElem?_append_right (by rw [flat_len hR, List.length_take, Nat.min_eq_left (by omega)]; omega), flat_len hR, List.length_take, Nat.min_eq_left (by omega), Nat.add_sub_cancel_left]
      exact hj
    have hl : k * size + j < xs.length * size := by rw [← flat_len hR xs]; exact (List.getElem?_eq_some_iff.1 hf).1
    have e0 : ((⟨g, 0, none⟩ : Addr).add (k * size)).add j = ⟨g, k * size + j, none⟩ := by
      by_cases h0 : k * size = 0 <;> by_cases h1 : j = 0 <;> simp [Addr.add, h0, h1]
    rw [e0, cell_of_row w g _ cur e (0, 0) hh, ← hf, ← h4, List.getElem?_take, if_pos hl]
    simp
end
end Go.Proofs.YtfpajgmdejlaeaaGreatDoor
