/-
  DeskSegments: a reply is told; some is sent, and taken apart. Plain.
-/
import Derived.Test.YtcblaeleaebinaaSeg
namespace Go.Proofs.Ytcblaeleaebinaa
open Go.RowKit

/-- the types of a past's blocks -/
theorem IsPast.types {w : World} {p g b m : Nat} {A : List UInt8} (h : IsPast w p g b m A) : (∃ cs, Blk w p 67 cs) ∧ (∃ cs, Blk w g 102 cs) ∧ ∃ cs, Blk w b 5 cs := by
  obtain ⟨f, arr, hr⟩ := h.ring
  exact ⟨⟨_, h.top⟩, ⟨_, hr.top⟩, ⟨_, hr.row⟩⟩

section
variable {w0 wr w' : World} {p g b d sp a k : Nat} {F : Nat → Prop} {pre all : ByteArray} {its : List It} {bg op : List UInt8} {vs tv gv : Value} {told : List ByteArray} {got : List (List UInt8 × Bool)}
theorem Seg.told_ (h : Seg w0 wr p g b d sp F pre all its k bg a op vs tv gv told got) {F' : Nat → Prop} {w3 w4 : World} {tv' : Value} (s : ByteArray) (K : Keeps F wr w3) (K4 : Keeps (fun _ => False) w3 w4)
    (hB : BenchF w0 w3 p g b 8000 d F' (pre.data.toList ++ all.data.toList) 1048576 bg ((flI its).drop k ++ markP (toldP s.data.toList)))
    (K5 : Keeps (fun i => rowB tv = some i) w4 w') (ho : OwnQ w' 9 tv' (told.map Value.string ++ [.string s])) (hr : rowB tv' = rowB tv ∨ rowB tv' = some w4.heap.size) :
    ∃ F2, Seg w0 w' p g b d sp F2 pre all (its ++ [.rep s.data.toList]) k bg a op vs tv' gv (told ++ [s]) got := by
  have e0 : flI (its ++ [.rep s.data.toList]) = flI its ++ markP (toldP s.data.toList) := by rw [flI_app]; simp [flI, It.fl]
  rw [← List.drop_append_of_le_length h.le, ← e0] at hB
  have hs4 := (h.side.keeps h.typed (K.mono fun i _ e => .inl e)).same K4
  obtain ⟨F1, h3, h4⟩ := (hB.same K4).typed
  have hrow : ∀ r, rowB tv = some r → ∃ cs, Blk w4 r 9 cs := hs4.row.row
  have hno : ∀ {i : Nat} {t : TypeId} {cs : Array Value}, Blk w4 i t cs → t ≠ 9 → ¬ (rowB tv = some i) := fun hb1 h2 e => by
    obtain ⟨cs2, hb2⟩ := hrow _ e
    exact hb1.ne_ hb2 h2 rfl
  have hpl := h3.past.lt
  have hw0 := h3.kk.size
  have hB5 := h3.keeps K5 (fun i hi e => by have := (hs4.tvlo i e).1; omega) (fun i hi e => by
    obtain ⟨cs2, hb2⟩ := hrow _ e
    exact h4.not hb2 (by decide) (by decide) (by decide) hi) ⟨fun e => (hs4.tvlo _ e).2.1 rfl, fun e => (hs4.tvlo _ e).2.2.1 rfl, fun e => (hs4.tvlo _ e).2.2.2 rfl⟩
  obtain ⟨F2, h5, h6⟩ := hB5.typed
  exact ⟨F2, {
    bench := h5
    typed := h6
    side := {
      sp_ := hs4.sp_.keeps K5 (hno hs4.sp_ (by decide))
      op_ := hs4.op_.keeps K5 (fun i _ ⟨cs, hc⟩ e => hno hc (by decide) e)
      row := by rw [List.map_append]; exact ho
      gots := hs4.gots.keeps K5 (fun i _ _ ⟨cs, hc⟩ e => hno hc (by decide) e)
      splo := hs4.splo
      vslo := hs4.vslo
      tvlo := fun r hr2 => by
        rcases hr with hr | hr
        · exact hs4.tvlo r (hr ▸ hr2)
        · rw [hr] at hr2; injection hr2 with hr2; omega
      gvlo := hs4.gvlo
      a4 := hs4.a4 }
    le := by rw [e0, List.length_append]; have := h.le; omega
    cons := by rw [consI_app, h.cons]; simp [consI]
    reps := by rw [repsI_app, h.reps, List.map_append]; simp [repsI]
    mach := by rw [e0, List.take_append_of_le_length h.le]; exact h.mach }⟩

/-- some is sent (w3), taken apart (w4, w5: Feed, Parts), and kept (w') -/
theorem Seg.came (h : Seg w0 wr p g b d sp F pre all its k bg a op vs tv gv told got) {w3 w4 w5 : World} {bg3 : List UInt8} {vs4 gv' : Value} (n : Nat) (K : Keeps F wr w3)
    (hB : BenchF w0 w3 p g b 8000 d F (pre.data.toList ++ all.data.toList) 1048576 bg3 (((flI its).drop k).drop n))
    {st : FS} (hst : st = feedP (a, op, [], []) ((((flI its).drop k).take n).map Prod.fst))
    (K4 : Keeps (fun i => i = sp ∨ rowB vs = some i) w3 w4) (h4a : Blk w4 sp 57 #[.int .i64 st.1, vs4]) (h4b : OwnQ w4 5 vs4 (u8Vs st.2.1)) (h4c : rowB vs4 = rowB vs ∨ (∃ r, rowB vs4 = some r ∧ w3.heap.size ≤ r) ∨ rowB vs4 = none) (h4d : st.1 ≤ 4)
    (K5 : Keeps (fun _ => False) w4 w5) (K6 : Keeps (fun i => w0.heap.size ≤ i ∧ ∃ cs, Blk w5 i 52 cs) w5 w') (ho : OwnS partR 2 w' w0.heap.size 52 gv' (got ++ (st.2.2.2 ++ conP st.2.2.1))) :
    ∃ F2, Seg w0 w' p g b d sp F2 pre all its (k + min n ((flI its).drop k).length) bg3 st.1 st.2.1 vs4 tv gv' told (got ++ (st.2.2.2 ++ conP st.2.2.1)) := by
  have hs3 := h.side.keeps h.typed (K.mono fun i _ e => .inl e)
  obtain ⟨F1, h3, h3t⟩ := hB.typed
  have hpl := h3.past.lt
  have hw0 := h3.kk.size
  have hrow : ∀ r, rowB vs = some r → ∃ cs, Blk w3 r 5 cs := hs3.op_.row
  have hno : ∀ {i : Nat} {t : TypeId} {cs : Array Value}, Blk w3 i t cs → t ≠ 57 → t ≠ 5 → ¬ (i = sp ∨ rowB vs = some i) := fun hb1 h1 h2 e => by
    rcases e with rfl | e
    · exact hb1.ne_ hs3.sp_ h1 rfl
    · obtain ⟨cs2, hb2⟩ := hrow _ e
      exact hb1.ne_ hb2 h2 rfl
  have hB4 := h3.keeps K4 (fun i hi e => by
      rcases e with rfl | e
      · have := hs3.splo.1; omega
      · have := (hs3.vslo i e).1; omega) (fun i hi e => by
      rcases e with rfl | e
      · exact h3t.not hs3.sp_ (by decide) (by decide) (by decide) hi
      · obtain ⟨cs2, hb2⟩ := hrow _ e
        exact h3t.not hb2 (by decide) (by decide) (by decide) hi) ⟨fun e => by
      rcases e with e | e
      · exact hs3.splo.2.1 e.symm
      · exact (hs3.vslo _ e).2.1 rfl, fun e => by
      rcases e with e | e
      · exact hs3.splo.2.2.1 e.symm
      · exact (hs3.vslo _ e).2.2.1 rfl, fun e => by
      rcases e with e | e
      · exact hs3.splo.2.2.2 e.symm
      · exact (hs3.vslo _ e).2.2.2 rfl⟩
  obtain ⟨F5, h5, h5t⟩ := (hB4.same K5).typed
  obtain ⟨⟨cp, hp⟩, ⟨cg, hg⟩, ⟨cb, hbb⟩⟩ := h5.past.types
  have hno6 : ∀ {i : Nat} {t : TypeId} {cs : Array Value}, Blk w5 i t cs → t ≠ 52 → ¬ (w0.heap.size ≤ i ∧ ∃ cs, Blk w5 i 52 cs) := fun hb1 h1 e => by
    obtain ⟨_, cs2, hb2⟩ := e
    exact hb1.ne_ hb2 h1 rfl
  have hB6 := h5.keeps K6 (fun i hi e => by omega) (fun i hi e => by
    obtain ⟨_, cs2, hb2⟩ := e
    exact h5t.not hb2 (by decide) (by decide) (by decide) hi) ⟨hno6 hp (by decide), hno6 hg (by decide), hno6 hbb (by decide)⟩
  obtain ⟨F6, h6, h6t⟩ := hB6.typed
  have e2 : (flI its).drop (k + min n ((flI its).drop k).length) = ((flI its).drop k).drop n := by
    rw [← List.drop_drop]
    rcases Nat.le_total n ((flI its).drop k).length with h | h
    · rw [Nat.min_eq_left h]
    · rw [Nat.min_eq_right h, List.drop_eq_nil_of_le h, List.drop_eq_nil_of_le (Nat.le_refl _)]
  have e3 : (flI its).take (k + min n ((flI its).drop k).length) = (flI its).take k ++ ((flI its).drop k).take n := by
    rw [List.take_add]
    congr 1
    rcases Nat.le_total n ((flI its).drop k).length with h | h
    · rw [Nat.min_eq_left h]
    · rw [Nat.min_eq_right h, List.take_of_length_le h, List.take_of_length_le (Nat.le_refl _)]
  have hsz3 := K4.size
  have hsz4 := K5.size
  have hsp5 := (h4a.keeps K5 id)
  have hop5 := (h4b.keeps K5 (fun _ _ _ => id))
  refine ⟨F6, {
    bench := by rw [e2]; exact h6
    typed := h6t
    side := {
      sp_ := hsp5.keeps K6 (hno6 hsp5 (by decide))
      op_ := hop5.keeps K6 (fun i _ ⟨cs, hc⟩ e => hno6 hc (by decide) e)
      row := ((hs3.row.keeps K4 (fun i _ ⟨cs, hc⟩ e => hno hc (by decide) (by decide) e)).keeps K5 (fun _ _ _ => id)).keeps K6 (fun i _ ⟨cs, hc⟩ e => hno6 hc (by decide) e)
      gots := ho
      splo := hs3.splo
      vslo := fun r hr => by
        rcases h4c with h4c | ⟨r', h4c, h7⟩ | h4c
        · exact hs3.vslo r (h4c ▸ hr)
        · rw [h4c] at hr; injection hr with hr; omega
        · rw [h4c] at hr; cases hr
      tvlo := hs3.tvlo
      gvlo := fun r hr => by
        obtain ⟨cs, hc⟩ := ho.ownBlk r hr
        obtain ⟨⟨cp6, hp6⟩, ⟨cg6, hg6⟩, ⟨cb6, hb6⟩⟩ := h6.past.types
        exact ⟨hc.ne_ hp6 (by decide), hc.ne_ hg6 (by decide), hc.ne_ hb6 (by decide)⟩
      a4 := h4d }
    le := by have := h.le; rw [List.length_drop]; omega
    cons := h.cons
    reps := h.reps
    mach := ?_ }⟩
  rw [e3, List.map_append, mrun_app, h.mach, feed_call, ← hst, consP_app got, repP_app got]
end
end Go.Proofs.Ytcblaeleaebinaa
