/-
  Own bytes, also those that a conversion of a string laid (their row bears a mark behind its last cell).
-/
import Derived.Test.YtdbnalocmjkncaaGreatDoorQGround2
import Derived.Laws.IdiomStrings
namespace Go.Proofs.YtdbnalocmjkncaaGreatDoor
open Go.RowKit

theorem run_storeCells_atZ (P : Program) (g o : Nat) (t : TypeId) (fz : Nat × Nat) (v : Value) (cur : Array Value) (w : World) (hg : w.heap[g]? = some (.cells cur t fz)) (hfz : fz.2 ≤ fz.1 ∨ cur.size ≤ fz.1) (hi : o < cur.size) (h1 : v.oneCell' = true) :
    (storeCells ⟨g, o, none⟩ [v] 0).run P w = .ok () (w.setRow g (cur.toList.take o ++ [v] ++ cur.toList.drop (o + 1)).toArray) := by
  have hadd : (⟨g, o, none⟩ : Addr).add 0 = ⟨g, o, none⟩ := by unfold Addr.add; split <;> simp_all
  have hcell : w.cell? ⟨g, o, none⟩ = some cur[o] := by simp [World.cell?, hg, hi]
  have hfro : w.frozen? ⟨g, o, none⟩ = false := by
    obtain ⟨lo, hi'⟩ := fz
    simp only [World.frozen?, hg, Bool.and_eq_false_iff, decide_eq_false_iff_not]
    simp only at hfz
    omega
  have hst : (store ((⟨g, o, none⟩ : Addr).add 0) v).run P w = .ok () (w.setRow g (cur.setIfInBounds o v)) := by
    rw [hadd, run_store P w _ v _ h1, hcell]
    simp [hfro, setCell_eq_setRow w g o cur t fz v hg]
  have e := list_seg_step cur.toList o v [] (by simp at hi ⊢; omega)
  simp only [storeCells, Sem.run_bind, hst, Result.andThen_ok]
  have e2 : cur.setIfInBounds o v = (cur.toList.take o ++ [v] ++ cur.toList.drop (o + 1)).toArray := by
    apply Array.ext'
    rw [Array.toList_setIfInBounds]
    simp only [List.append_assoc]
    rw [List.set_eq_take_append_cons_drop, if_pos (by simpa using hi)]
    rfl
  rw [e2]
  rfl

/-- the slice value v holds the bytes cs, in a row of its own from block B on -/
def OwnZ (w : World) (B : Nat) (e : TypeId) (v : Value) (vs : List Value) : Prop :=
  (vs = [] ∧ v = .slice none 0 0) ∨ ∃ (g cap : Nat) (cur : Array Value) (fz : Nat × Nat), v = .slice (some ⟨g, 0, none⟩) vs.length cap ∧ B ≤ g ∧ w.heap[g]? = some (.cells cur e fz) ∧ (fz.2 ≤ fz.1 ∨ cur.size ≤ fz.1) ∧ vs.length ≤ cap ∧ cap ≤ cur.size ∧ cap ≤ maxLen ∧ ∀ (j : Nat) (u : Value), vs[j]? = some u → cur[j]? = some u

section
variable {w w' : World} {B : Nat} {e : TypeId} {v : Value} {vs : List Value}
theorem OwnZ.keeps {S : Nat → Prop} (h : OwnZ w B e v vs) (k : Keeps S w w') (hS : ∀ i, B ≤ i → i < w.heap.size → ¬ S i) : OwnZ w' B e v vs := by
  rcases h with h | ⟨g, cap, cur, fz, rfl, hB, hb, r⟩
  · exact .inl h
  · have hl : g < w.heap.size := by
      rcases Nat.lt_or_ge g w.heap.size with hlt | hge
      · exact hlt
      · rw [Array.getElem?_eq_none hge] at hb; cases hb
    exact .inr ⟨g, cap, cur, fz, rfl, hB, by rw [k.block g hl (hS g hB hl)]; exact hb, r⟩
theorem OwnZ.sl (h : OwnZ w B e v vs) : ∃ a cap, v = .slice a vs.length cap := by
  rcases h with ⟨rfl, rfl⟩ | ⟨g, cap, cur, fz, rfl, _⟩
  · exact ⟨none, 0, rfl⟩
  · exact ⟨_, _, rfl⟩
end

section
variable {P : Program}
/-- []byte(s) -/
theorem run_bytes_z (w : World) (B : Nat) (src dst e : TypeId) (s : ByteArray) (hs : P.underlying src = some .string) (hd : P.underlying dst = some (.slice e)) (he : P.underlying e = some (.int .u8)) (hB : B ≤ w.heap.size) (hl : s.size ≤ 8589934592) :
    ∃ v' w', (convert src dst (.string s)).run P w = .ok v' w' ∧ OwnZ w' B e v' (u8Vs s.data.toList) ∧ Keeps (fun _ => False) w w' := by
  have hr := run_bytes_of_string w src dst e s hs hd he
  have hge := grownCap_ge w s.size 0 e
  have hsz : (bytesRow s (grownCap w s.size 0 e)).size = grownCap w s.size 0 e := by
    unfold bytesRow
    have : s.data.size = s.size := rfl
    simp only [Array.size_append, Array.size_map, Array.size_replicate]
    omega
  have hls : (u8Vs s.data.toList).length = s.size := by rw [u8Vs_len]; simp
  refine ⟨_, _, hr, .inr ⟨w.heap.size, grownCap w s.size 0 e, _, _, by rw [hls], hB, heap_alloc_new w.drew _, .inr (Nat.le_refl _), by omega, by omega, grownCap_le_maxLen w s.size 0 e (by unfold maxLen; omega), fun j u hj => ?_⟩, (Keeps.refl _ w).drew.alloc _⟩
  have hjl : j < s.size := by rw [← hls]; exact (List.getElem?_eq_some_iff.1 hj).1
  unfold bytesRow
  rw [Array.getElem?_append_left (by simp; exact hjl)]
  unfold u8Vs at hj
  simpa using hj

theorem run_append_z (w : World) (B : Nat) (t ty e : TypeId) (z : Value) (bytes : Nat) (ht : P.underlying t = some (.slice e))
    (hi : (P.info? e).map (fun i => (i.zero, i.size, i.bytes)) = some (some z, 1, bytes)) (hb16 : bytes ≤ 4096) (hz : z.cells.size = 1) (hB : B ≤ w.heap.size)
    (v : Value) (vs : List Value) (hown : OwnZ w B e v vs) (ad : Addr) (c : Nat) (u : Value) (hu : w.cell? ad = some u) (h1 : u.oneCell' = true) (hlen : vs.length ≤ 17179869184) :
    ∃ v' w', (Builtin.append_ #[t, t] ty #[v, .slice (some ad) 1 c]).run P w = .ok v' w' ∧ OwnZ w' B e v' (vs ++ [u]) ∧ Keeps (fun i => B ≤ i) w w' := by
  obtain ⟨i, hi0, hzi, hsi, hbi⟩ := info_parts hi
  have hnews : ∀ j u', [u][j]? = some u' → w.cell? (ad.add j) = some u' := fun j u' hj => by
    match j, hj with
    | 0, hj => simp at hj; subst hj; simpa [Addr.add] using hu
  have hmul : (vs.length + 1) * i.bytes ≤ 140737488355328 := by
    have := Nat.mul_le_mul (show vs.length + 1 ≤ 17179869185 by omega) (show i.bytes ≤ 4096 by omega)
    omega
  have grown : ∀ (old : Nat), ∃ w', w' = w.drew.alloc (.cells (vs.toArray ++ [u].toArray ++ Builtin.zeroCells z.cells (grownCap w (vs.length + 1) old e - (vs.length + 1))) e) ∧
      OwnZ w' B e (.slice (some ⟨w.heap.size, 0, none⟩) (vs.length + 1) (grownCap w (vs.length + 1) old e)) (vs ++ [u]) ∧ Keeps (fun i => B ≤ i) w w' := fun old => by
    have hge := grownCap_ge w (vs.length + 1) old e
    have hcm : grownCap w (vs.length + 1) old e ≤ maxLen := grownCap_le_maxLen w (vs.length + 1) old e (by unfold maxLen; omega)
    refine ⟨_, rfl, .inr ⟨w.heap.size, _, _, (0, 0), by simp, hB, heap_alloc_new w.drew _, .inl (Nat.le_refl _), by simpa using hge, ?_, hcm, fun j u' hj => ?_⟩, (Keeps.refl _ w).drew.alloc _⟩
    · simp only [Array.size_append, List.size_toArray, size_zeroCells, hz, List.length_singleton]; omega
    · rw [Array.getElem?_append_left (by
        have := (List.getElem?_eq_some_iff.1 hj).1
        simpa using this)]
      simpa using hj
  rcases hown with ⟨rfl, rfl⟩ | ⟨g, cap, cur, fz, rfl, hgB, hb, hfz, hnc, hcs, hcm, hget⟩
  · obtain ⟨w', hw', hO, hK⟩ := grown 0
    refine ⟨_, w', ?_, hO, hK⟩
    rw [hw']
    have hr := run_append_nil (P := P) w t ty e i z ht hi0 hzi ad 1 c [u] (by rw [hsi]; rfl) hnews (by omega) (by omega) (by simp at hmul; omega)
    simpa using hr
  · by_cases hroom : vs.length + 1 ≤ cap
    · have hf := run_firstCells_some (P := P) w i.size 1 ad 1 c [u] (by rw [hsi]; rfl) hnews
      rw [hsi] at hf
      have hst := run_storeCells_atZ P g vs.length e fz u cur w hb hfz (by omega) h1
      refine ⟨.slice (some ⟨g, 0, none⟩) (vs.length + 1) cap, w.setRow g (cur.toList.take vs.length ++ [u] ++ cur.toList.drop (vs.length + 1)).toArray, ?_, .inr ⟨g, cap, (cur.toList.take vs.length ++ [u] ++ cur.toList.drop (vs.length + 1)).toArray, fz, by simp, hgB, setRow_heap w g cur _ e _ hb, ?_, by simpa using hroom, ?_, hcm, fun j u' hj => ?_⟩, (Keeps.refl _ w).setRow (fun _ => hgB) _⟩
      rotate_left
      · simp only [List.size_toArray, List.length_append, List.length_take, List.length_drop, Array.length_toList, List.length_singleton]; omega
      · simp only [List.size_toArray, List.length_append, List.length_take, List.length_drop, Array.length_toList, List.length_singleton]; omega
      · have hjl : j < vs.length + 1 := by simpa using (List.getElem?_eq_some_iff.1 hj).1
        have htl : (cur.toList.take vs.length).length = vs.length := by simp; omega
        rw [List.getElem?_toArray, List.append_assoc]
        by_cases hjn : j < vs.length
        · rw [List.getElem?_append_left (by rw [htl]; omega), List.getElem?_take, if_pos (by omega)]
          rw [List.getElem?_append_left hjn] at hj
          simpa using hget j u' hj
        · obtain rfl : j = vs.length := by omega
          rw [List.getElem?_append_right (by rw [htl]; omega), htl]
          simpa using hj
      · simp [Builtin.append_, run_underlying ht, sizeOf, typeInfo, hi0, Builtin.lenOf, hroom, hf, Addr.add_lit, hst, hsi]
    · obtain ⟨w', hw', hO, hK⟩ := grown cap
      refine ⟨_, w', ?_, hO, hK⟩
      rw [hw']
      exact run_append_grow (P := P) w t ty e i z ht hi0 hzi ⟨g, 0, none⟩ vs.length cap vs (by rw [hsi]; omega) (fun j u' hj => by
        rw [Addr.add_lit, Nat.zero_add]
        have := hget j u' hj
        unfold World.cell?
        rw [hb]
        exact this) ad 1 c [u] (by rw [hsi]; rfl) hnews (by omega) (by omega) (growslice_fits (by omega) hmul)

theorem wpList_append_z {w : World} {ops : Array Oper} {rest : List Oper} {o : Oper} {a : Act} {Q : Exit → Act → World → Prop} (hgd : o.guard = none) (B : Nat) (s x : Operand) (t : TypeId)
    (ho : o.op = .call { callee := .builtin .append, args := #[s, x], argTypes := #[t, t] }) (e : TypeId) (z : Value) (bytes : Nat) (ht : P.underlying t = some (.slice e))
    (hi : (P.info? e).map (fun i => (i.zero, i.size, i.bytes)) = some (some z, 1, bytes)) (hz : z.cells.size = 1) (hb16 : bytes ≤ 4096) (hB : B ≤ w.heap.size)
    (v : Value) (vs : List Value) (hs : a.eval s = v) (hown : OwnZ w B e v vs) (ad : Addr) (c : Nat) (u : Value) (hx : a.eval x = .slice (some ad) 1 c) (hu : w.cell? ad = some u) (h1 : u.oneCell' = true)
    (hlen : vs.length ≤ 17179869184)
    (h : ∀ v' w', OwnZ w' B e v' (vs ++ [u]) → Keeps (fun i => B ≤ i) w w' → wpList P ops Q rest (a.put o.dst v') w') : wpList P ops Q (o :: rest) a w :=
  wpList_plain hgd fun _ hK => by
    obtain ⟨v', w', hr, h2, h3⟩ := run_append_z (P := P) w B t o.type e z bytes ht hi hb16 hz hB v vs hown ad c u hu h1 hlen
    unfold Oper.wp execOp
    simp only [ho, resolve, invoke, builtin, Sem.run_bind, Sem.run_pure, Result.andThen_ok, List.map_toArray, List.map_cons, List.map_nil, hs, hx, hr]
    exact hK _ _ (h v' w' h2 h3)
/-- string(bytes) -/
theorem run_string_z (w : World) (B : Nat) (src dst e : TypeId) (v : Value) (cs : List UInt8) (hs : P.underlying src = some (.slice e)) (he : P.underlying e = some (.int .u8)) (hd : P.underlying dst = some .string) (h : OwnZ w B e v (u8Vs cs)) :
    (convert src dst v).run P w = .ok (.string (str cs)) w := by
  rcases h with ⟨h1, rfl⟩ | ⟨g, cap, cur, fz, rfl, hB, hb, hfz, hnc, hcs, hcm, hget⟩
  · have : cs = [] := List.eq_nil_of_length_eq_zero (by rw [← u8Vs_len, h1]; rfl)
    subst this
    rw [run_convert_bytes_string w src dst e _ _ 0 hs he hd]
    rfl
  · rw [u8Vs_len]
    exact run_string_bytes w src dst e ⟨g, 0, none⟩ cs.length cap cs hs he hd rfl (fun j c hj => by
      rw [Addr.add_lit, Nat.zero_add]
      have := hget j (.int .u8 c.toNat) (by unfold u8Vs; rw [List.getElem?_map, hj]; rfl)
      unfold World.cell?
      rw [hb]
      exact this)
theorem wpList_bytes_z {w : World} {ops : Array Oper} {rest : List Oper} {o : Oper} {a : Act} {Q : Exit → Act → World → Prop} (hgd : o.guard = none) (B : Nat) (x : Operand) (src dst : TypeId) (hop : o.op = Op.convert src dst x) (e : TypeId)
    (hs : P.underlying src = some .string) (hd : P.underlying dst = some (.slice e)) (he : P.underlying e = some (.int .u8)) (hB : B ≤ w.heap.size) (s : ByteArray) (hx : a.eval x = .string s) (hl : s.size ≤ 8589934592)
    (h : ∀ v' w', OwnZ w' B e v' (u8Vs s.data.toList) → Keeps (fun _ => False) w w' → wpList P ops Q rest (a.put o.dst v') w') : wpList P ops Q (o :: rest) a w :=
  wpList_plain hgd fun _ hK => by
    obtain ⟨v', w', hr, h2, h3⟩ := run_bytes_z (P := P) w B src dst e s hs hd he hB hl
    unfold Oper.wp
    simp only [execOp, hop, hx, hr, Sem.run_bind, Sem.run_pure, Result.andThen_ok]
    exact hK _ _ (h v' w' h2 h3)
theorem wpList_string_z {w : World} {ops : Array Oper} {rest : List Oper} {o : Oper} {a : Act} {Q : Exit → Act → World → Prop} (hgd : o.guard = none) (B : Nat) (x : Operand) (src dst : TypeId) (hop : o.op = Op.convert src dst x) (e : TypeId)
    (hs : P.underlying src = some (.slice e)) (he : P.underlying e = some (.int .u8)) (hd : P.underlying dst = some .string) (v : Value) (cs : List UInt8) (hx : a.eval x = v) (ho : OwnZ w B e v (u8Vs cs))
    (h : wpList P ops Q rest (a.put o.dst (.string (str cs))) w) : wpList P ops Q (o :: rest) a w :=
  wpList_plain hgd fun _ hK => by
    have hr := run_string_z (P := P) w B src dst e v cs hs he hd ho
    unfold Oper.wp
    simp only [execOp, hop, hx, hr, Sem.run_bind, Sem.run_pure, Result.andThen_ok]
    exact hK _ _ h
end
end Go.Proofs.YtdbnalocmjkncaaGreatDoor
