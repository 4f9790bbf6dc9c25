/-
  A slice of one-cell elements that begins anywhere in its row: append of one value, and what lies in it. No program in sight.
-/
import Derived.Test.YtgpfmkkkpdpdfaaDoorOwnS
namespace Go.Proofs.YtgpfmkkkpdpdfaaDoor
open Go.RowKit

/-- the slice value v, of element type e, holds the values vs; behind them, up to its capacity, the row is its own -/
def OwnQ (w : World) (e : TypeId) (v : Value) (vs : List Value) : Prop :=
  (vs = [] ∧ ∃ a, v = .slice a 0 0) ∨ ∃ g off cap cur, v = .slice (some ⟨g, off, none⟩) vs.length cap ∧ Blk w g e cur ∧ vs.length ≤ cap ∧ off + cap ≤ cur.size ∧ cap ≤ maxLen ∧ ∀ j u, vs[j]? = some u → cur[off + j]? = some u

/-- the block into which an append may write -/
def rowB : Value → Option Nat
  | .slice (some a) _ c => if c = 0 then none else some a.block
  | _ => none
theorem rowB_some (g off n c : Nat) (h : 0 < c) : rowB (.slice (some ⟨g, off, none⟩) n c) = some g := by simp only [rowB]; rw [if_neg (by omega)]
theorem rowB_zero (a : Option Addr) (n : Nat) : rowB (.slice a n 0) = none := by cases a <;> rfl

section
variable {w w' : World} {e : TypeId} {v : Value} {vs : List Value}
theorem OwnQ.none_ : OwnQ w e (.slice none 0 0) [] := .inl ⟨rfl, none, rfl⟩
theorem OwnQ.keeps {S : Nat → Prop} (h : OwnQ w e v vs) (k : Keeps S w w') (hS : ∀ i, rowB v = some i → (∃ cs, Blk w i e cs) → ¬ S i) : OwnQ w' e v vs := by
  rcases h with h | ⟨g, off, cap, cur, rfl, hb, r⟩
  · exact .inl h
  · by_cases h0 : cap = 0
    · subst h0
      exact .inl ⟨List.eq_nil_of_length_eq_zero (by omega), _, by rw [show vs.length = 0 by omega]⟩
    · exact .inr ⟨g, off, cap, cur, rfl, hb.keeps k (hS g (rowB_some _ _ _ _ (by omega)) ⟨_, hb⟩), r⟩
theorem OwnQ.row (h : OwnQ w e v vs) : ∀ i, rowB v = some i → ∃ cs, Blk w i e cs := by
  intro i hi
  rcases h with ⟨rfl, a, rfl⟩ | ⟨g, off, cap, cur, rfl, hb, r⟩
  · rw [rowB_zero] at hi; cases hi
  · by_cases h0 : cap = 0
    · subst h0; rw [rowB_zero] at hi; cases hi
    · rw [rowB_some _ _ _ _ (by omega)] at hi; injection hi with hi; subst hi; exact ⟨_, hb⟩
theorem OwnQ.sl (h : OwnQ w e v vs) : ∃ a cap, v = .slice a vs.length cap := by
  rcases h with ⟨rfl, a, rfl⟩ | ⟨g, off, cap, cur, rfl, _⟩
  · exact ⟨a, 0, rfl⟩
  · exact ⟨_, _, rfl⟩
theorem OwnQ.sl3 (h : OwnQ w e v vs) : ∃ a n c, v = .slice a n c := by obtain ⟨a, c, hv⟩ := h.sl; exact ⟨a, _, c, hv⟩
theorem OwnQ.cell (h : OwnQ w e v vs) {j : Nat} {u : Value} (hu : vs[j]? = some u) : ∃ g off cap, v = .slice (some ⟨g, off, none⟩) vs.length cap ∧ w.cell? ⟨g, off + j, none⟩ = some u ∧ w.frozen? ⟨g, off + j, none⟩ = false ∧ g < w.heap.size ∧ ∃ cs, Blk w g e cs := by
  rcases h with ⟨rfl, _⟩ | ⟨g, off, cap, cur, rfl, hb, h1, h2, h3, h4⟩
  · simp at hu
  · exact ⟨g, off, cap, rfl, by rw [hb.cell]; exact h4 j u hu, hb.frozen _, hb.lt, _, hb⟩
/-- without its first element -/
theorem OwnQ.tail {u : Value} (h : OwnQ w e v (u :: vs)) {a : Option Addr} {n c : Nat} (hv : v = .slice a n c) : OwnQ w e (.slice (if c = 1 then a else a.map (·.add 1)) (n - 1) (c - 1)) vs := by
  rcases h with ⟨h, _⟩ | ⟨g, off, cap, cur, rfl, hb, h1, h2, h3, h4⟩
  · cases h
  · injection hv with ha hn hc
    subst ha; subst hn; subst hc
    rw [List.length_cons] at h1
    by_cases h0 : cap = 1
    · subst h0
      have : vs = [] := List.eq_nil_of_length_eq_zero (by omega)
      subst this
      exact .inl ⟨rfl, _, rfl⟩
    · rw [if_neg h0]
      refine .inr ⟨g, off + 1, cap - 1, cur, ?_, hb, by omega, by omega, by omega, fun j u' hj => ?_⟩
      · simp [Addr.add]
      · have := h4 (j + 1) u' (by simpa using hj)
        rw [← this]; congr 1; omega
end

section
variable {P : Program}
theorem run_append_q (w : World) (t ty e : TypeId) (z : Value) (bytes : Nat) (ht : P.underlying t = some (.slice e))
    (hi : (P.info? e).map (fun i => (i.zero, i.size, i.bytes)) = some (some z, 1, bytes)) (hb16 : bytes ≤ 4096) (hz : z.cells.size = 1)
    (v : Value) (vs : List Value) (hown : OwnQ w e v vs) (ad : Addr) (c : Nat) (u : Value) (hu : w.cell? ad = some u) (h1 : u.oneCell' = true) (hlen : vs.length ≤ 17179869184) :
    ∃ v' w', (Builtin.append_ #[t, t] ty #[v, .slice (some ad) 1 c]).run P w = .ok v' w' ∧ OwnQ w' e v' (vs ++ [u]) ∧ Keeps (fun i => rowB v = some i) w w' ∧ (rowB v' = rowB v ∨ rowB v' = some w.heap.size) := by
  obtain ⟨i, hi0, hzi, hsi, hbi⟩ := info_parts hi
  have hnews : ∀ j u', [u][j]? = some u' → w.cell? (ad.add j) = some u' := fun j u' hj => by
    match j, hj with
    | 0, hj => simp at hj; subst hj; simpa [Addr.add] using hu
  have hone : ∀ x ∈ [u], x.oneCell' = true := fun x hx => by simp at hx; subst hx; exact h1
  have hmul : (vs.length + 1) * i.bytes ≤ 140737488355328 := by
    have := Nat.mul_le_mul (show vs.length + 1 ≤ 17179869185 by omega) (show i.bytes ≤ 4096 by omega)
    omega
  have grown : ∀ (old : Nat), ∃ w', w' = w.drew.alloc (.cells (vs.toArray ++ [u].toArray ++ Builtin.zeroCells z.cells (grownCap w (vs.length + 1) old e - (vs.length + 1))) e) ∧
      OwnQ w' e (.slice (some ⟨w.heap.size, 0, none⟩) (vs.length + 1) (grownCap w (vs.length + 1) old e)) (vs ++ [u]) ∧ Keeps (fun i => rowB v = some i) w w' := fun old => by
    have hge := grownCap_ge w (vs.length + 1) old e
    have hcm : grownCap w (vs.length + 1) old e ≤ maxLen := grownCap_le_maxLen w (vs.length + 1) old e (by unfold maxLen; omega)
    refine ⟨_, rfl, .inr ⟨w.heap.size, 0, _, _, by simp, heap_alloc_new w.drew _, by simpa using hge, ?_, hcm, fun j u' hj => ?_⟩, (Keeps.refl _ w).drew.alloc _⟩
    · simp only [Array.size_append, List.size_toArray, size_zeroCells, hz, List.length_singleton]; omega
    · rw [Nat.zero_add, Array.getElem?_append_left (by
        have := (List.getElem?_eq_some_iff.1 hj).1
        simpa using this)]
      simpa using hj
  rcases hown with ⟨rfl, a, rfl⟩ | ⟨g, off, cap, cur, rfl, hb, hnc, hcs, hcm, hget⟩
  · obtain ⟨w', hw', hO, hK⟩ := grown 0
    refine ⟨_, w', ?_, hO, hK, .inr (rowB_some _ _ _ _ (by have := grownCap_ge w (0 + 1) 0 e; simp at this ⊢; omega))⟩
    rw [hw']
    cases a with
    | none =>
      have hr := run_append_nil (P := P) w t ty e i z ht hi0 hzi ad 1 c [u] (by rw [hsi]; rfl) hnews (by omega) (by omega) (by simp at hmul; omega)
      simpa using hr
    | some b =>
      have hr := run_append_grow (P := P) w t ty e i z ht hi0 hzi b 0 0 [] (by simp) (fun j u' hj => by simp at hj) ad 1 c [u] (by rw [hsi]; rfl) hnews (by omega) (by omega) (growslice_fits (by omega) hmul)
      simpa using hr
  · by_cases hroom : vs.length + 1 ≤ cap
    · have hf := run_firstCells_some (P := P) w i.size 1 ad 1 c [u] (by rw [hsi]; rfl) hnews
      rw [hsi] at hf
      have hst := run_storeCells_at P g (off + vs.length) e [u] 0 cur w hb (by simp; omega) (fun x hx => by simp at hx; subst hx; exact h1)
      simp only [Nat.add_zero] at hst
      refine ⟨.slice (some ⟨g, off, none⟩) (vs.length + 1) cap, w.setRow g (cur.toList.take (off + vs.length) ++ [u] ++ cur.toList.drop (off + vs.length + [u].length)).toArray, ?_, .inr ⟨g, off, cap, (cur.toList.take (off + vs.length) ++ [u] ++ cur.toList.drop (off + vs.length + [u].length)).toArray, by simp, setRow_heap w g cur _ e _ hb, by simpa using hroom, ?_, hcm, fun j u' hj => ?_⟩, (Keeps.refl _ w).setRow (fun _ => rowB_some _ _ _ _ (by omega)) _, .inl ((rowB_some _ _ _ _ (by omega)).trans (rowB_some _ _ _ _ (by omega)).symm)⟩
      rotate_left
      · simp only [List.size_toArray, List.length_append, List.length_take, List.length_drop, Array.length_toList, List.length_singleton]; omega
      · have hjl : j < vs.length + 1 := by simpa using (List.getElem?_eq_some_iff.1 hj).1
        have htl : (cur.toList.take (off + vs.length)).length = off + vs.length := by simp; omega
        rw [List.getElem?_toArray, List.append_assoc]
        by_cases hjn : j < vs.length
        · rw [List.getElem?_append_left (by rw [htl]; omega), List.getElem?_take, if_pos (by omega)]
          rw [List.getElem?_append_left hjn] at hj
          simpa using hget j u' hj
        · obtain rfl : j = vs.length := by omega
          rw [List.getElem?_append_right (by rw [htl]; omega), htl]
          simpa using hj
      · simp [Builtin.append_, run_underlying ht, sizeOf, typeInfo, hi0, Builtin.lenOf, hroom, hf, Addr.add_lit, hst, hsi]
    · obtain ⟨w', hw', hO, hK⟩ := grown cap
      refine ⟨_, w', ?_, hO, hK, .inr (rowB_some _ _ _ _ (by have := grownCap_ge w (vs.length + 1) cap e; omega))⟩
      rw [hw']
      exact run_append_grow (P := P) w t ty e i z ht hi0 hzi ⟨g, off, none⟩ vs.length cap vs (by rw [hsi]; omega) (fun j u' hj => by
        rw [Addr.add_lit, hb.cell]; exact hget j u' hj) ad 1 c [u] (by rw [hsi]; rfl) hnews (by omega) (by omega) (growslice_fits (by omega) hmul)

/-- append of one value at an operation, and at a step of a region that draws its order -/
theorem wp_append_q {w : World} {o : Oper} {a : Act} {K : Act → World → Prop} {Q : Exit → Act → World → Prop} (s x : Operand) (t : TypeId)
    (ho : o.op = .call { callee := .builtin .append, args := #[s, x], argTypes := #[t, t] }) (e : TypeId) (z : Value) (bytes : Nat) (ht : P.underlying t = some (.slice e))
    (hi : (P.info? e).map (fun i => (i.zero, i.size, i.bytes)) = some (some z, 1, bytes)) (hz : z.cells.size = 1) (hb16 : bytes ≤ 4096)
    (v : Value) (vs : List Value) (hs : a.eval s = v) (hown : OwnQ w e v vs) (ad : Addr) (c : Nat) (u : Value) (hx : a.eval x = .slice (some ad) 1 c) (hu : w.cell? ad = some u) (h1 : u.oneCell' = true)
    (hlen : vs.length ≤ 17179869184)
    (h : ∀ v' w', OwnQ w' e v' (vs ++ [u]) → Keeps (fun i => rowB v = some i) w w' → (rowB v' = rowB v ∨ rowB v' = some w.heap.size) → K (a.put o.dst v') w') : o.wp P a w K Q := by
  obtain ⟨v', w', hr, h2, h3, h4⟩ := run_append_q (P := P) w t o.type e z bytes ht hi hb16 hz v vs hown ad c u hu h1 hlen
  unfold Oper.wp execOp
  simp only [ho, resolve, invoke, builtin, Sem.run_bind, Sem.run_pure, Result.andThen_ok, List.map_toArray, List.map_cons, List.map_nil, hs, hx, hr]
  exact h v' w' h2 h3 h4
theorem wpList_append_q {w : World} {ops : Array Oper} {rest : List Oper} {o : Oper} {a : Act} {Q : Exit → Act → World → Prop} (hgd : o.guard = none) (s x : Operand) (t : TypeId)
    (ho : o.op = .call { callee := .builtin .append, args := #[s, x], argTypes := #[t, t] }) (e : TypeId) (z : Value) (bytes : Nat) (ht : P.underlying t = some (.slice e))
    (hi : (P.info? e).map (fun i => (i.zero, i.size, i.bytes)) = some (some z, 1, bytes)) (hz : z.cells.size = 1) (hb16 : bytes ≤ 4096)
    (v : Value) (vs : List Value) (hs : a.eval s = v) (hown : OwnQ w e v vs) (ad : Addr) (c : Nat) (u : Value) (hx : a.eval x = .slice (some ad) 1 c) (hu : w.cell? ad = some u) (h1 : u.oneCell' = true)
    (hlen : vs.length ≤ 17179869184)
    (h : ∀ v' w', OwnQ w' e v' (vs ++ [u]) → Keeps (fun i => rowB v = some i) w w' → (rowB v' = rowB v ∨ rowB v' = some w.heap.size) → wpList P ops Q rest (a.put o.dst v') w') : wpList P ops Q (o :: rest) a w :=
  wpList_plain hgd fun _ hK => wp_append_q s x t ho e z bytes ht hi hz hb16 v vs hs hown ad c u hx hu h1 hlen fun v' w' h2 h3 h4 => hK _ _ (h v' w' h2 h3 h4)
theorem step_append_q {w : World} {ops : Array Oper} {o : Oper} {a : Act} {K : Act → World → Prop} {Q : Exit → Act → World → Prop} {E : Prop} (hgd : o.guard = none) (s x : Operand) (t : TypeId)
    (ho : o.op = .call { callee := .builtin .append, args := #[s, x], argTypes := #[t, t] }) (e : TypeId) (z : Value) (bytes : Nat) (ht : P.underlying t = some (.slice e))
    (hi : (P.info? e).map (fun i => (i.zero, i.size, i.bytes)) = some (some z, 1, bytes)) (hz : z.cells.size = 1) (hb16 : bytes ≤ 4096)
    (v : Value) (vs : List Value) (hs : a.eval s = v) (hown : OwnQ w e v vs) (ad : Addr) (c : Nat) (u : Value) (hx : a.eval x = .slice (some ad) 1 c) (hu : w.cell? ad = some u) (h1 : u.oneCell' = true)
    (hlen : vs.length ≤ 17179869184)
    (h : ∀ v' w', OwnQ w' e v' (vs ++ [u]) → Keeps (fun i => rowB v = some i) w w' → (rowB v' = rowB v ∨ rowB v' = some w.heap.size) → K (a.put o.dst v') w') :
    if Region.wanted o (yielded ops a.tmps) = true then Oper.wp P o a w K Q else E := by
  have hw : Region.wanted o (yielded ops a.tmps) = true := by simp [Region.wanted, hgd]
  rw [if_pos hw]
  exact wp_append_q s x t ho e z bytes ht hi hz hb16 v vs hs hown ad c u hx hu h1 hlen h
end
end Go.Proofs.YtgpfmkkkpdpdfaaDoor
