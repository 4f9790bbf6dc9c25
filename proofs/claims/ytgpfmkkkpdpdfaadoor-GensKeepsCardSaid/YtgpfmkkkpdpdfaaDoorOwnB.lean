/-
  Own bytes that begin anywhere in their row: append of a text's bytes, of another slice's cells; the text of them; a cut with its capacity. No program in sight.
-/
import Derived.Test.YtgpfmkkkpdpdfaaDoorOwnQ
import Derived.Test.YtgpfmkkkpdpdfaaDoorOwnT
import Derived.Lib.AppendStr
namespace Go.Proofs.YtgpfmkkkpdpdfaaDoor
open Go.RowKit

theorem strCells_u8 (s : ByteArray) : Lib.strCells s = u8Vs s.data.toList := by simp [Lib.strCells, u8Vs]
theorem u8Vs_app (a b : List UInt8) : u8Vs (a ++ b) = u8Vs a ++ u8Vs b := by simp [u8Vs]
theorem u8Vs_take (l : List UInt8) (n : Nat) : u8Vs (l.take n) = (u8Vs l).take n := by simp [u8Vs]
theorem u8Vs_size (s : ByteArray) : (u8Vs s.data.toList).length = s.size := by rw [u8Vs_len]; simp

section
variable {P : Program}
/-- what an append leaves: the values, and which row they lie in -/
def Appended (w w' : World) (e : TypeId) (v v' : Value) (vs : List Value) : Prop := OwnQ w' e v' vs ∧ Keeps (fun i => rowB v = some i) w w' ∧ (rowB v' = rowB v ∨ rowB v' = some w.heap.size)

theorem app_grown {w : World} {e : TypeId} {z : Value} (hz : z.cells.size = 1) (v : Value) (vs news : List Value) (hpos : 0 < news.length) (hlen : vs.length + news.length ≤ 34359738368) (old : Nat) :
    Appended w (w.drew.alloc (.cells (vs.toArray ++ news.toArray ++ Builtin.zeroCells z.cells (grownCap w (vs.length + news.length) old e - (vs.length + news.length))) e)) e v (.slice (some ⟨w.heap.size, 0, none⟩) (vs.length + news.length) (grownCap w (vs.length + news.length) old e)) (vs ++ news) := by
  have hge := grownCap_ge w (vs.length + news.length) old e
  have hcm : grownCap w (vs.length + news.length) old e ≤ maxLen := grownCap_le_maxLen w (vs.length + news.length) old e (by unfold maxLen; omega)
  refine ⟨.inr ⟨w.heap.size, 0, _, _, by simp, heap_alloc_new w.drew _, by simpa using hge, ?_, hcm, fun j u' hj => ?_⟩, (Keeps.refl _ w).drew.alloc _, ?_⟩
  · simp only [Array.size_append, List.size_toArray, size_zeroCells, hz]; omega
  · rw [Nat.zero_add, Array.getElem?_append_left (by
      have := (List.getElem?_eq_some_iff.1 hj).1
      simpa using this)]
    simpa using hj
  · exact .inr (rowB_some _ _ _ _ (by omega))
theorem Appended.same {w : World} {e : TypeId} {v : Value} {vs : List Value} (h : OwnQ w e v vs) : Appended w w e v v (vs ++ []) := ⟨by rw [List.append_nil]; exact h, Keeps.refl _ _, .inl rfl⟩
/-- the row has room -/
theorem app_room {w : World} {e : TypeId} {g off n cap : Nat} {cur : Array Value} {vs news : List Value} (hn : n = vs.length) (hb : Blk w g e cur) (hroom : vs.length + news.length ≤ cap) (hcs : off + cap ≤ cur.size) (hcm : cap ≤ maxLen) (hget : ∀ j u, vs[j]? = some u → cur[off + j]? = some u) (hpos : 0 < news.length) :
    Appended w (w.setRow g (cur.toList.take (off + vs.length) ++ news ++ cur.toList.drop (off + vs.length + news.length)).toArray) e (.slice (some ⟨g, off, none⟩) n cap) (.slice (some ⟨g, off, none⟩) (vs.length + news.length) cap) (vs ++ news) := by
  subst hn
  refine ⟨.inr ⟨g, off, cap, (cur.toList.take (off + vs.length) ++ news ++ cur.toList.drop (off + vs.length + news.length)).toArray, by simp, setRow_heap w g cur _ e _ hb, by simpa using hroom, ?_, hcm, fun j u' hj => ?_⟩, (Keeps.refl _ w).setRow (fun _ => rowB_some _ _ _ _ (by omega)) _, .inl ?_⟩
  · simp only [List.size_toArray, List.length_append, List.length_take, List.length_drop, Array.length_toList]; omega
  · have htl : (cur.toList.take (off + vs.length)).length = off + vs.length := by simp; omega
    rw [List.getElem?_toArray, List.append_assoc]
    by_cases hjn : j < vs.length
    · rw [List.getElem?_append_left (by rw [htl]; omega), List.getElem?_take, if_pos (by omega)]
      rw [List.getElem?_append_left hjn] at hj
      simpa using hget j u' hj
    · rw [List.getElem?_append_right (by rw [htl]; omega), htl, show off + j - (off + vs.length) = j - vs.length by omega]
      rw [List.getElem?_append_right (by omega)] at hj
      rw [List.getElem?_append_left (List.getElem?_eq_some_iff.1 hj).1]
      exact hj
  · rw [rowB_some _ _ _ _ (by omega), rowB_some _ _ _ _ (by omega)]

theorem run_append_qs (w : World) (t u ty e : TypeId) (ht : P.underlying t = some (.slice e)) (hu : P.underlying u = some .string)
    (hi : (P.info? e).map (fun i => (i.zero, i.size, i.bytes)) = some (some (.int .u8 0), 1, 1))
    (v : Value) (vs : List Value) (hown : OwnQ w e v vs) (s : ByteArray) (hlen : vs.length + s.size ≤ 34359738368) :
    ∃ v' w', (Builtin.append_ #[t, u] ty #[v, .string s]).run P w = .ok v' w' ∧ Appended w w' e v v' (vs ++ u8Vs s.data.toList) := by
  obtain ⟨i, hi0, hzi, hsi, hbi⟩ := info_parts hi
  have hsl := Lib.strCells_length s
  by_cases hm : s.size = 0
  · have hn : u8Vs s.data.toList = [] := List.eq_nil_of_length_eq_zero (by rw [u8Vs_size]; exact hm)
    have hf := Lib.run_firstCells_string (P := P) w 1 s
    rw [hm, strCells_u8, hn] at hf
    obtain ⟨a, c, hv⟩ := hown.sl
    have hle : vs.length ≤ c := by
      rcases hown with ⟨rfl, a', rfl⟩ | ⟨g, off, cap, cur, rfl, hb, hnc, hcs, hcm, hget⟩
      · simp
      · injection hv with _ _ h3
        omega
    refine ⟨v, w, ?_, by rw [hn]; exact Appended.same hown⟩
    rw [hv]
    cases a with
    | none => simp [Builtin.append_, run_underlying ht, run_underlying hu, sizeOf, typeInfo, hi0, hsi, Builtin.lenOf, hm, hf, hle]
    | some a => simp [Builtin.append_, run_underlying ht, run_underlying hu, sizeOf, typeInfo, hi0, hsi, Builtin.lenOf, hm, hf, hle, storeCells]
  · have hz1 : (Value.int IntKind.u8 0).cells.size = 1 := rfl
    have hpos : 0 < (Lib.strCells s).length := by rw [hsl]; omega
    rw [← strCells_u8]
    rcases hown with ⟨rfl, a, rfl⟩ | ⟨g, off, cap, cur, rfl, hb, hnc, hcs, hcm, hget⟩
    · cases a with
      | none =>
        have hr := run_append_nil_string (P := P) w t u ty e i (.int .u8 0) ht hu hi0 hzi s (by omega) (by omega) (by rw [hbi]; omega)
        have hgr := app_grown (w := w) (e := e) hz1 (.slice none 0 0) [] (Lib.strCells s) hpos (by rw [hsl]; simpa using hlen) 0
        have e1 : (s.data.map fun b => Value.int .u8 b.toNat) = (Lib.strCells s).toArray := by
          apply Array.ext'
          simp [Lib.strCells]
        rw [e1] at hr
        simp only [List.length_nil, Nat.zero_add, hsl, List.nil_append, Array.empty_append] at hgr
        exact ⟨_, _, hr, hgr⟩
      | some b =>
        have hr := Lib.run_append_grow_string (P := P) (w := w) t u ty e i (.int .u8 0) ht hu hi0 hzi b 0 0 [] (by simp) (fun j u' hj => by simp at hj) s (by omega) (by omega) (by rw [hbi]; exact growslice_fits (by omega) (by omega))
        have hgr := app_grown (w := w) (e := e) hz1 (.slice (some b) 0 0) [] (Lib.strCells s) hpos (by rw [hsl]; simpa using hlen) 0
        simp only [List.length_nil, hsl] at hgr
        exact ⟨_, _, hr, hgr⟩
    · by_cases hroom : vs.length + s.size ≤ cap
      · have hf := Lib.run_firstCells_string (P := P) w 1 s
        have hst := run_storeCells_at P g (off + vs.length) e (Lib.strCells s) 0 cur w hb (by rw [hsl]; omega) (Lib.strCells_oneCell s)
        simp only [Nat.add_zero] at hst
        refine ⟨.slice (some ⟨g, off, none⟩) (vs.length + s.size) cap, _, ?_, by
          have := app_room (w := w) (e := e) (g := g) (off := off) (n := vs.length) (cap := cap) (vs := vs) (news := Lib.strCells s) rfl hb (by rw [hsl]; exact hroom) hcs hcm hget hpos
          rw [hsl] at this
          exact this⟩
        rw [hsl] at hst
        simp [Builtin.append_, run_underlying ht, run_underlying hu, sizeOf, typeInfo, hi0, hsi, Builtin.lenOf, hroom, hf, Addr.add_lit, hst]
      · have hr := Lib.run_append_grow_string (P := P) (w := w) t u ty e i (.int .u8 0) ht hu hi0 hzi ⟨g, off, none⟩ vs.length cap vs (by rw [hsi]; omega) (fun j u' hj => by
          rw [Addr.add_lit, hb.cell]; exact hget j u' hj) s (by omega) (by omega) (by rw [hbi]; exact growslice_fits (by omega) (by omega))
        have hgr := app_grown (w := w) (e := e) hz1 (.slice (some ⟨g, off, none⟩) vs.length cap) vs (Lib.strCells s) hpos (by rw [hsl]; exact hlen) cap
        rw [hsl] at hgr
        exact ⟨_, _, hr, hgr⟩

theorem wpList_append_qs {w : World} {ops : Array Oper} {rest : List Oper} {o : Oper} {a : Act} {Q : Exit → Act → World → Prop} (hgd : o.guard = none) (sl x : Operand) (t u : TypeId)
    (ho : o.op = .call { callee := .builtin .append, args := #[sl, x], argTypes := #[t, u] }) (e : TypeId) (ht : P.underlying t = some (.slice e)) (hu : P.underlying u = some .string)
    (hi : (P.info? e).map (fun i => (i.zero, i.size, i.bytes)) = some (some (.int .u8 0), 1, 1))
    (v : Value) (vs : List Value) (hs : a.eval sl = v) (hown : OwnQ w e v vs) (s : ByteArray) (hx : a.eval x = .string s) (hlen : vs.length + s.size ≤ 34359738368)
    (h : ∀ v' w', Appended w w' e v v' (vs ++ u8Vs s.data.toList) → wpList P ops Q rest (a.put o.dst v') w') : wpList P ops Q (o :: rest) a w :=
  wpList_plain hgd fun _ hK => by
    obtain ⟨v', w', hr, h2⟩ := run_append_qs (P := P) w t u o.type e ht hu hi v vs hown s hlen
    unfold Oper.wp execOp
    simp only [ho, resolve, invoke, builtin, Sem.run_bind, Sem.run_pure, Result.andThen_ok, List.map_toArray, List.map_cons, List.map_nil, hs, hx, hr]
    exact hK _ _ (h v' w' h2)

/-- .. of another slice's cells, behind a slice that has none -/
theorem run_append_q0 (w : World) (t ty e : TypeId) (z : Value) (bytes : Nat) (ht : P.underlying t = some (.slice e))
    (hi : (P.info? e).map (fun i => (i.zero, i.size, i.bytes)) = some (some z, 1, bytes)) (hb16 : bytes ≤ 4096) (hz : z.cells.size = 1)
    (a : Option Addr) (v : Value) (vs : List Value) (hown : OwnQ w e v vs) (hlen : vs.length ≤ 17179869184) :
    ∃ v' w', (Builtin.append_ #[t, t] ty #[.slice a 0 0, v]).run P w = .ok v' w' ∧ Appended w w' e (.slice a 0 0) v' vs := by
  obtain ⟨i, hi0, hzi, hsi, hbi⟩ := info_parts hi
  have hmul : vs.length * i.bytes ≤ 140737488355328 := by
    have := Nat.mul_le_mul hlen (show i.bytes ≤ 4096 by omega)
    omega
  by_cases hm : vs = []
  · subst hm
    obtain ⟨b, c, rfl⟩ := hown.sl
    refine ⟨.slice a 0 0, w, ?_, ⟨.inl ⟨rfl, _, rfl⟩, Keeps.refl _ _, .inl rfl⟩⟩
    cases a with
    | none => cases b <;> simp [Builtin.append_, run_underlying ht, sizeOf, typeInfo, hi0, Builtin.lenOf, Builtin.firstCells, loadCells, loadCellsFrom]
    | some a => cases b <;> simp [Builtin.append_, run_underlying ht, sizeOf, typeInfo, hi0, Builtin.lenOf, Builtin.firstCells, loadCells, loadCellsFrom, storeCells]
  · have hpos := List.length_pos_iff.2 hm
    rcases hown with ⟨rfl, _⟩ | ⟨g, off, cap, cur, rfl, hb, hnc, hcs, hcm, hget⟩
    · exact absurd rfl hm
    · have hgr := app_grown (w := w) (e := e) hz (.slice a 0 0) [] vs hpos (by simp; omega) 0
      have hnews : ∀ j u, vs[j]? = some u → w.cell? ((⟨g, off, none⟩ : Addr).add j) = some u := fun j u hj => by rw [Addr.add_lit, hb.cell]; exact hget j u hj
      simp only [List.length_nil, Nat.zero_add, List.nil_append, Array.empty_append] at hgr
      cases a with
      | none => exact ⟨_, _, run_append_nil (P := P) w t ty e i z ht hi0 hzi ⟨g, off, none⟩ vs.length cap vs (by rw [hsi]; omega) hnews hpos (by omega) (by omega), hgr⟩
      | some b =>
        have hr := run_append_grow (P := P) w t ty e i z ht hi0 hzi b 0 0 [] (by simp) (fun j u' hj => by simp at hj) ⟨g, off, none⟩ vs.length cap vs (by rw [hsi]; omega) hnews (by omega) (by omega) (growslice_fits (by omega) (by rw [Nat.zero_add]; exact hmul))
        rw [Nat.zero_add] at hr
        exact ⟨_, _, hr, by simpa using hgr⟩

theorem wpList_append_q0 {w : World} {ops : Array Oper} {rest : List Oper} {o : Oper} {ac : Act} {Q : Exit → Act → World → Prop} (hgd : o.guard = none) (sl x : Operand) (t : TypeId)
    (ho : o.op = .call { callee := .builtin .append, args := #[sl, x], argTypes := #[t, t] }) (e : TypeId) (z : Value) (bytes : Nat) (ht : P.underlying t = some (.slice e))
    (hi : (P.info? e).map (fun i => (i.zero, i.size, i.bytes)) = some (some z, 1, bytes)) (hb16 : bytes ≤ 4096) (hz : z.cells.size = 1)
    (a : Option Addr) (v : Value) (vs : List Value) (hs : ac.eval sl = .slice a 0 0) (hx : ac.eval x = v) (hown : OwnQ w e v vs) (hlen : vs.length ≤ 17179869184)
    (h : ∀ v' w', Appended w w' e (.slice a 0 0) v' vs → wpList P ops Q rest (ac.put o.dst v') w') : wpList P ops Q (o :: rest) ac w :=
  wpList_plain hgd fun _ hK => by
    obtain ⟨v', w', hr, h2⟩ := run_append_q0 (P := P) w t o.type e z bytes ht hi hb16 hz a v vs hown hlen
    unfold Oper.wp execOp
    simp only [ho, resolve, invoke, builtin, Sem.run_bind, Sem.run_pure, Result.andThen_ok, List.map_toArray, List.map_cons, List.map_nil, hs, hx, hr]
    exact hK _ _ (h v' w' h2)

/-- the text of own bytes -/
theorem run_string_q (w : World) (src dst e : TypeId) (v : Value) (cs : List UInt8) (hs : P.underlying src = some (.slice e)) (he : P.underlying e = some (.int .u8)) (hd : P.underlying dst = some .string) (h : OwnQ w e v (u8Vs cs)) :
    (convert src dst v).run P w = .ok (.string (str cs)) w := by
  rcases h with ⟨h1, a, rfl⟩ | ⟨g, off, cap, cur, rfl, hb, hnc, hcs, hcm, hget⟩
  · have : cs = [] := List.eq_nil_of_length_eq_zero (by rw [← u8Vs_len, h1]; rfl)
    subst this
    rw [run_convert_bytes_string w src dst e _ _ 0 hs he hd]
    cases a <;> rfl
  · rw [u8Vs_len]
    exact run_string_bytes w src dst e ⟨g, off, none⟩ cs.length cap cs hs he hd rfl (fun j c hj => by
      rw [Addr.add_lit, hb.cell]
      exact hget j _ (by unfold u8Vs; rw [List.getElem?_map, hj]; rfl))
/-- the first n, without room behind -/
theorem OwnQ.cut {w : World} {e : TypeId} {a : Option Addr} {m c : Nat} {vs : List Value} (h : OwnQ w e (.slice a m c) vs) {n : Nat} (hn : n ≤ vs.length) : OwnQ w e (.slice a n n) (vs.take n) ∧ (rowB (.slice a n n) = none ∨ rowB (.slice a n n) = rowB (.slice a m c)) := by
  rcases h with ⟨rfl, b, hv⟩ | ⟨g, off, cap, cur, hv, hb, h1, h2, h3, h4⟩
  · obtain rfl : n = 0 := by simpa using hn
    exact ⟨.inl ⟨by simp, _, rfl⟩, .inl (rowB_zero _ _)⟩
  · injection hv with e1 e2 e3
    subst e1 e2 e3
    by_cases h0 : n = 0
    · subst h0
      exact ⟨.inl ⟨by simp, _, rfl⟩, .inl (rowB_zero _ _)⟩
    · have hl : (vs.take n).length = n := by rw [List.length_take]; omega
      refine ⟨.inr ⟨g, off, n, cur, by rw [hl], hb, by omega, by omega, by omega, fun j u hj => ?_⟩, .inr ?_⟩
      · rw [List.getElem?_take] at hj
        split at hj
        · exact h4 j u hj
        · cases hj
      · rw [rowB_some _ _ _ _ (by omega), rowB_some _ _ _ _ (by omega)]
end
end Go.Proofs.YtgpfmkkkpdpdfaaDoor
