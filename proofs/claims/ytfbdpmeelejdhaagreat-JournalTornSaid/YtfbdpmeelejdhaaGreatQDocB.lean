/-
  The document's store (wheelhouseref11): place, Total, without.
-/
import Derived.Test.YtfbdpmeelejdhaaGreatQDocA
namespace Go.Proofs.YtfbdpmeelejdhaaGreat
open Go.RowKit Go.Maps

/-- the document's store, as a value -/
def docS (v : Value) (most bad : Int) : Value := .agg #[v, .int .i64 most, .int .i64 bad]
def docO (v : Value) (most bad : Int) : Obj := .cells #[v, .int .i64 most, .int .i64 bad] 54
def docF (f : SFile) : Value := .agg #[.string f.name, .string f.data, .int .i64 (f.sure : Nat)]
/-- a row that reads as these files -/
def DocL (w : World) (v : Value) (l : List SFile) : Prop := OwnS docR 3 w 0 116 v l

theorem getG_at {nm : ByteArray} : ∀ {l : List SFile} {i : Nat} {f : SFile}, (∀ j, j < i → ∀ x, l[j]? = some x → x.name ≠ nm) → l[i]? = some f → f.name = nm → getG SFile.name nm l = some f
  | [], _, _, _, h, _ => by simp at h
  | x :: l, 0, f, _, h, hn => by
    simp at h
    subst h
    simp [getG, hn]
  | x :: l, i + 1, f, hj, h, hn => by
    have hx := hj 0 (by omega) x rfl
    have := getG_at (l := l) (i := i) (fun j h x hx => hj (j + 1) (by omega) x (by simpa using hx)) (by simpa using h) hn
    simpa [getG, List.find?_cons, hx] using this
theorem getG_no {nm : ByteArray} {l : List SFile} (h : ∀ j, j < l.length → ∀ x, l[j]? = some x → x.name ≠ nm) : getG SFile.name nm l = none := by
  unfold getG
  rw [List.find?_eq_none]
  intro x hx
  obtain ⟨j, hj, rfl⟩ := List.mem_iff_getElem.1 hx
  simpa using h j hj _ (List.getElem?_eq_getElem hj)
theorem nm_eq {a b : ByteArray} (h : a = b) : (a.toList == b.toList) = true := by subst h; exact beq_self_eq_true _
theorem nm_ne {a b : ByteArray} (h : a ≠ b) : (a.toList == b.toList) = false := by
  rw [beq_eq_false_iff_ne]
  intro e
  rw [ByteArray.toList_eq, ByteArray.toList_eq] at e
  exact h (ba_ext e)
theorem DocL.keeps {w w' : World} {v : Value} {l : List SFile} (h : DocL w v l) (k : Keeps (fun _ => False) w w') : DocL w' v l := OwnS.keeps h k (fun _ _ _ _ => id)
theorem DocL.cells {w : World} {v : Value} {l : List SFile} (h : DocL w v l) : ∃ a c, v = .slice a l.length c ∧ ∀ i f, l[i]? = some f → ∃ g, a = some ⟨g, 0, none⟩ ∧ g < w.heap.size ∧ ∀ w', Keeps (fun _ => False) w w' → w'.cell? ⟨g, i * 3, none⟩ = some (.string f.name) ∧ w'.cell? ⟨g, i * 3 + 1, none⟩ = some (.string f.data) ∧ w'.cell? ⟨g, i * 3 + 2, none⟩ = some (.int .i64 (f.sure : Nat)) := by
  obtain ⟨a, c, hv, -, -, hne, hc⟩ := OwnS.shape h docR_len
  refine ⟨a, c, hv, fun i f hf => ?_⟩
  obtain ⟨g, rfl, -, hlt, -⟩ := hne (by have := (List.getElem?_eq_some_iff.1 hf).1; omega)
  exact ⟨g, rfl, hlt, fun w' k => ⟨(World.cell?_of_block (w := w) (k.block g hlt id)).trans (hc g rfl i f 0 _ hf rfl).1, (World.cell?_of_block (w := w) (k.block g hlt id)).trans (hc g rfl i f 1 _ hf rfl).1, (World.cell?_of_block (w := w) (k.block g hlt id)).trans (hc g rfl i f 2 _ hf rfl).1⟩⟩

set_option maxRecDepth 100000 in
set_option maxHeartbeats 1000000 in
theorem rplace_any (w : World) (v : Value) (most bad : Int) (l : List SFile) (nm : ByteArray) (h : DocL w v l) (hl : l.length ≤ 4294967296) :
    Calls Tryz.prog 91 #[docS v most bad, .string nm] w fun e w' => (∃ p : Int, e = .returned (.int .i64 p) ∧ ((p = -1 ∧ getG SFile.name nm l = none) ∨ ∃ (i : Nat) (f : SFile), p = i ∧ i < l.length ∧ l[i]? = some f ∧ getG SFile.name nm l = some f)) ∧ w' = w.alloc (docO v most bad) := by
  obtain ⟨a, c, rfl, hc⟩ := h.cells
  have HC := Lib.hid hc
  clear hc h
  unfold docS docO
  go_enter Tryz.func91, Tryz.ntmps91
  go_wp2_with fail
  go_loopw [5] (fun u5 wr => wr = w.alloc (.cells #[.slice a l.length c, .int .i64 most, .int .i64 bad] 54) ∧ ∃ i : Nat, u5 = .int .i64 i ∧ i ≤ l.length ∧ Hid (∀ j, j < i → ∀ x, l[j]? = some x → x.name ≠ nm)) (fun u5 _ => l.length - (intOf u5).toNat)
  case atStart => exact ⟨rfl, 0, rfl, Nat.zero_le _, Lib.hid fun j h => by omega⟩
  case round =>
    obtain ⟨rfl, i, rfl, hi, HI⟩ := hrel
    by_cases hlt : i < l.length
    · obtain ⟨f, hf⟩ : ∃ f, l[i]? = some f := ⟨_, List.getElem?_eq_getElem hlt⟩
      obtain ⟨g, rfl, hg, hcc⟩ := HC.out i f hf
      obtain ⟨c0, c1, c2⟩ := hcc _ ((Keeps.refl _ _).alloc (.cells #[.slice (some ⟨g, 0, none⟩) l.length c, .int .i64 most, .int .i64 bad] 54))
      have HF := Lib.hid hf
      clear hf hcc
      by_cases hn : f.name = nm
      · have HN := Lib.hid hn
        have he := nm_eq hn
        clear hn
        go_wp2_with fail
        go_ret
        exact ⟨⟨_, rfl, .inr ⟨i, f, rfl, hlt, HF.out, getG_at HI.out HF.out HN.out⟩⟩, rfl⟩
      · have HN := Lib.hid hn
        have he := nm_ne hn
        clear hn
        go_wp2_with fail
        go_roundw
        case rel => exact ⟨trivial, i + 1, by go_num, by omega, Lib.hid fun j hj x hx => by
          by_cases e : j = i
          · subst e
            have : f = x := Option.some.inj (HF.out.symm.trans hx)
            exact this ▸ HN.out
          · exact HI.out j (by omega) x hx⟩
        case measure => simp [intOf]; omega
    · obtain rfl : i = l.length := by omega
      go_wp2_with fail
      go_ret
      exact ⟨⟨_, rfl, .inl ⟨rfl, getG_no HI.out⟩⟩, rfl⟩

theorem tot_step {l : List SFile} {i : Nat} {f : SFile} (h : l[i]? = some f) : totF (l.take (i + 1)) = totF (l.take i) + f.data.size := by
  rw [List.take_add_one, h]; simp [totF]
set_option maxRecDepth 100000 in
set_option maxHeartbeats 1000000 in
theorem rtotal_any (w : World) (v : Value) (most bad : Int) (l : List SFile) (h : DocL w v l) (hl : l.length ≤ 4294967296) (hd : ∀ f ∈ l, f.data.size ≤ 1073741824) :
    Calls Tryz.prog 87 #[docS v most bad] w fun e w' => e = .returned (.int .i64 (totF l : Nat)) ∧ w' = w.alloc (docO v most bad) := by
  obtain ⟨a, c, rfl, hc⟩ := h.cells
  have HC := Lib.hid hc
  have HD := Lib.hid hd
  clear hc h hd
  unfold docS docO
  go_enter Tryz.func87, Tryz.ntmps87
  go_wp2_with fail
  go_loopw [3, 4] (fun u3 u4 wr => wr = w.alloc (.cells #[.slice a l.length c, .int .i64 most, .int .i64 bad] 54) ∧ ∃ i t : Nat, u4 = .int .i64 i ∧ u3 = .int .i64 t ∧ i ≤ l.length ∧ t ≤ i * 1073741824 ∧ Hid (t = totF (l.take i))) (fun _ u4 _ => l.length - (intOf u4).toNat)
  case atStart => exact ⟨rfl, 0, 0, rfl, rfl, Nat.zero_le _, Nat.zero_le _, Lib.hid rfl⟩
  case round =>
    obtain ⟨rfl, i, t, rfl, rfl, hi, ht, HI⟩ := hrel
    by_cases hlt : i < l.length
    · obtain ⟨f, hf⟩ : ∃ f, l[i]? = some f := ⟨_, List.getElem?_eq_getElem hlt⟩
      obtain ⟨g, rfl, hg, hcc⟩ := HC.out i f hf
      obtain ⟨c0, c1, c2⟩ := hcc _ ((Keeps.refl _ _).alloc (.cells #[.slice (some ⟨g, 0, none⟩) l.length c, .int .i64 most, .int .i64 bad] 54))
      have hfd := HD.out f (List.mem_of_getElem? hf)
      have hts := tot_step hf
      rw [← HI.out] at hts
      have HT := Lib.hid hts
      clear hf hcc hts
      go_wp2_with fail
      go_roundw
      case rel => exact ⟨trivial, i + 1, t + f.data.size, by go_num, by go_num, by omega, by omega, Lib.hid HT.out.symm⟩
      case measure => simp [intOf]; omega
    · obtain rfl : i = l.length := by omega
      have he := HI.out
      rw [List.take_length] at he
      subst he
      go_wp2_with fail
      go_ret
      exact ⟨rfl, rfl⟩

theorem del_step {l : List SFile} {i : Nat} {f : SFile} {nm : ByteArray} (h : l[i]? = some f) : delG SFile.name nm (l.take (i + 1)) = delG SFile.name nm (l.take i) ++ (if f.name = nm then [] else [f]) := by
  rw [List.take_add_one, h]
  unfold delG
  rw [List.filter_append]
  by_cases hn : f.name = nm <;> simp [hn]
set_option maxRecDepth 100000 in
set_option maxHeartbeats 1000000 in
theorem rwithout_any (w : World) (v : Value) (l : List SFile) (nm : ByteArray) (h : DocL w v l) (hl : l.length ≤ 4294967296) :
    Calls Tryz.prog 118 #[v, .string nm] w fun e w' => ∃ v', e = .returned v' ∧ OwnS docR 3 w' w.heap.size 116 v' (delG SFile.name nm l) ∧ Keeps (fun _ => False) w w' := by
  obtain ⟨a, c, rfl, hc⟩ := h.cells
  have HC := Lib.hid hc
  clear hc h
  go_enter Tryz.func118, Tryz.ntmps118
  go_wp2_with fail
  go_loopw [5, 6] (fun u5 u6 wr => ∃ i : Nat, u6 = .int .i64 i ∧ i ≤ l.length ∧ Hid (OwnS docR 3 wr w.heap.size 116 u5 (delG SFile.name nm (l.take i)) ∧ Keeps (fun _ => False) w wr)) (fun _ u6 _ => l.length - (intOf u6).toNat)
  case atStart => exact ⟨0, rfl, Nat.zero_le _, Lib.hid ⟨OwnS.none_, Keeps.refl _ _⟩⟩
  case round =>
    obtain ⟨i, rfl, hi, HI⟩ := hrel
    by_cases hlt : i < l.length
    · obtain ⟨f, hf⟩ : ∃ f, l[i]? = some f := ⟨_, List.getElem?_eq_getElem hlt⟩
      obtain ⟨g, rfl, hg, hcc⟩ := HC.out i f hf
      obtain ⟨c0, c1, c2⟩ := hcc wr HI.out.2
      have hds := del_step (nm := nm) hf
      by_cases hn : f.name = nm
      · rw [if_pos hn, List.append_nil] at hds
        have he := nm_eq hn
        have HDS := Lib.hid hds
        clear hn hf hcc hds
        go_wp2_with fail
        go_roundw
        case rel => exact ⟨i + 1, by go_num, by omega, Lib.hid ⟨by rw [HDS.out]; exact HI.out.1, HI.out.2⟩⟩
        case measure => simp [intOf]; omega
      · rw [if_neg hn] at hds
        have he := nm_ne hn
        have hszr := HI.out.2.size
        have hgr : g < wr.heap.size := by omega
        have htl : (delG SFile.name nm (l.take i)).length ≤ 17179869184 := by
          have h1 : (delG SFile.name nm (l.take i)).length ≤ (l.take i).length := List.length_filter_le _ _
          rw [List.length_take] at h1
          omega
        obtain ⟨ys, hys⟩ : ∃ ys, ys = delG SFile.name nm (l.take i) := ⟨_, rfl⟩
        have hown := HI.out.1
        rw [← hys] at hds htl hown
        have HDS := Lib.hid hds
        have HOW := Lib.hid hown
        have HTL := Lib.hid htl
        have HK := Lib.hid HI.out.2
        clear hn hf hcc hds hown htl hys HI
        go_wp2_with (with_reducible show wpList _ _ _ (⟨some 26, _, _, _, _, _⟩ :: _) _ _; go_must (refine wpList_append_st docR 3 docR_len (by decide) rfl (.tmp 20) (.tmp 25) 52 rfl w.heap.size 116 (.agg #[.string ⟨#[]⟩, .string ⟨#[]⟩, .int .i64 0]) 40 Tryz.underlying52 (by kernel_rfl) rfl (by omega) u5 ys rfl (OwnS.keeps (S := fun _ => False) HOW.out ((Keeps.refl _ _).alloc _) (fun _ _ _ _ => id)) wr.heap.size 1 f rfl (Blk.new _ _ _) (docR_one _) HTL.out (by simp; omega) ?_; intro v7 w7 O7 k7; have HO7 := Lib.hid O7; have HK7 := Lib.hid k7; have hz7 := k7.size; simp at hz7; clear O7 k7))
        go_roundw
        case rel => exact ⟨i + 1, by go_num, by omega, Lib.hid ⟨by rw [HDS.out]; exact HO7.out, HK.out.and_ (((Keeps.refl (fun i => w.heap.size ≤ i) wr).alloc _).trans (HK7.out.mono fun i _ e => e.1)) (fun i hi e => by omega)⟩⟩
        case measure => simp [intOf]; omega
    · obtain rfl : i = l.length := by omega
      have hh := HI.out
      rw [List.take_length] at hh
      have HH := Lib.hid hh
      clear hh
      go_wp2_with fail
      go_ret
      exact ⟨u5, rfl, HH.out⟩
end Go.Proofs.YtfbdpmeelejdhaaGreat
