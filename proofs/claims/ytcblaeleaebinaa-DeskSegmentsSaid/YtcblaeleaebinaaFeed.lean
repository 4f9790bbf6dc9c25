/-
  mux.Splitter.Feed: its closure (flush).
-/
import Derived.Test.YtcblaeleaebinaaSplitter
import Derived.Test.YtcblaeleaebinaaSplit28
import Derived.Deep.Upon
namespace Go.Proofs.Ytcblaeleaebinaa
open Go.RowKit

section
variable {P : Program}
/-- string(bytes), the bytes in a row of one's own -/
theorem run_string_q (w : World) (src dst e : TypeId) (v : Value) (cs : List UInt8) (hs : P.underlying src = some (.slice e)) (he : P.underlying e = some (.int .u8)) (hd : P.underlying dst = some .string) (h : OwnQ w e v (u8Vs cs)) :
    (convert src dst v).run P w = .ok (.string (str cs)) w := by
  rcases h with ⟨h1, a, rfl⟩ | ⟨g, off, cap, cur, rfl, hb, h1, h2, h3, hget⟩
  · have : cs = [] := List.eq_nil_of_length_eq_zero (by rw [← u8Vs_len, h1]; rfl)
    subst this
    rw [run_convert_bytes_string w src dst e _ _ 0 hs he hd]
    cases a <;> rfl
  · rw [u8Vs_len]
    exact run_string_bytes w src dst e ⟨g, off, none⟩ cs.length cap cs hs he hd rfl (fun j c hj => by
      rw [Addr.add_lit, hb.cell]
      exact hget j (.int .u8 c.toNat) (by unfold u8Vs; rw [List.getElem?_map, hj]; rfl))
theorem wpList_string_q {w : World} {ops : Array Oper} {rest : List Oper} {o : Oper} {a : Act} {Q : Exit → Act → World → Prop} (hgd : o.guard = none) (x : Operand) (src dst : TypeId) (hop : o.op = Op.convert src dst x) (e : TypeId)
    (hs : P.underlying src = some (.slice e)) (he : P.underlying e = some (.int .u8)) (hd : P.underlying dst = some .string) (v : Value) (cs : List UInt8) (hx : a.eval x = v) (ho : OwnQ w e v (u8Vs cs))
    (h : wpList P ops Q rest (a.put o.dst (.string (str cs))) w) : wpList P ops Q (o :: rest) a w :=
  wpList_plain hgd fun _ hK => by
    have hr := run_string_q (P := P) w src dst e v cs hs he hd ho
    unfold Oper.wp
    simp only [execOp, hop, hx, hr, Sem.run_bind, Sem.run_pure, Result.andThen_ok]
    exact hK _ _ h
end

/-- the two variables that the closure writes: the console's bytes so far, the parts so far -/
structure FeedAt (w : World) (B bd bo : Nat) (vd vo : Value) (data : List UInt8) (out : List (List UInt8 × Bool)) : Prop where
  dat : Blk w bd 55 #[vd]
  out_ : Blk w bo 59 #[vo]
  own : OwnQ w 5 vd (u8Vs data)
  parts : OwnS partR 2 w B 95 vo out
  row : ∀ r, rowB vd = some r → B ≤ r
  le : B ≤ bd ∧ B ≤ bo ∧ B ≤ w.heap.size

set_option maxRecDepth 100000 in
set_option maxHeartbeats 2000000 in
theorem flush_any (w : World) (B bd bo : Nat) (vd vo : Value) (data : List UInt8) (out : List (List UInt8 × Bool)) (h : FeedAt w B bd bo vd vo data out) (hd : data.length ≤ 1073741824) (ho : out.length ≤ 1073741824) :
    Calls Try.prog 44 #[.pointer (some ⟨bd, 0, none⟩), .pointer (some ⟨bo, 0, none⟩)] w fun e w' => e = .returned (.tuple #[]) ∧ ∃ vd' vo', FeedAt w' B bd bo vd' vo' [] (out ++ conP data) ∧ (vd' = vd ∨ vd' = .slice none 0 0) ∧ Keeps (fun i => i = bd ∨ i = bo ∨ (B ≤ i ∧ ∃ cs, Blk w i 95 cs)) w w' := by
  have H := Lib.hid h
  have c0 := h.dat.cell 0
  have f0 := h.dat.frozen 0
  simp at c0
  obtain ⟨av, nv, cv, hvd⟩ := h.own.sl3
  subst hvd
  have hnv : nv = data.length := by
    obtain ⟨a1, c1, hx⟩ := h.own.sl
    injection hx with _ h2 _
    rw [u8Vs_len] at h2
    exact h2
  have c1 := h.out_.cell 0
  have f1 := h.out_.frozen 0
  simp at c1
  have hbb : bd ≠ bo := h.dat.ne_ h.out_ (by decide)
  have hlt := h.out_.lt
  by_cases hne : data = []
  · have hn0 : nv = 0 := by rw [hnv, hne]; rfl
    have hn1 : ¬ (0 < nv) := by omega
    clear h hnv
    subst hn0
    go_enter Try.func44, Try.ntmps44
    go_wp2_with fail
    go_end0
    have h0 := H.out
    rw [hne] at h0 ⊢
    refine ⟨rfl, _, vo, ?_, .inl rfl, Keeps.refl _ _⟩
    simpa [conP] using h0
  · have hn1 : 0 < nv := by rw [hnv]; exact List.length_pos_iff.2 hne
    have hn2 : (0 : Int) < (nv : Int) := by omega
    have hown := H.out.own
    have hparts := H.out.parts
    have hle := H.out.le.2.2
    have HOWN := Lib.hid hown
    have HPA := Lib.hid hparts
    have HNE := Lib.hid hne
    clear h hnv hown hparts hne
    go_enter Try.func44, Try.ntmps44
    go_wp2_with (first
      | (with_reducible show wpList _ _ _ (⟨some 7, _, _, _, _, _⟩ :: _) _ _; go_must (refine wpList_string_q rfl (.tmp 6) 55 9 rfl 5 Try.underlying55 Try.underlying5 Try.underlying9 (.slice av nv cv) data rfl HOWN.out ?_))
      | (with_reducible show wpList _ _ _ (⟨some 10, _, _, _, _, _⟩ :: _) _ _; go_must (refine wpList_append_st partR 2 partR_len (by decide) rfl (.tmp 5) (.tmp 9) 59 rfl B 95 (.agg #[.string ⟨#[]⟩, .bool false]) 24 Try.underlying59 (by kernel_rfl) rfl (by omega) vo out rfl (OwnS.keeps (S := fun _ => False) HPA.out ((Keeps.refl _ _).alloc _) (fun _ _ _ _ => id)) w.heap.size 1 (data, false) rfl (Blk.new _ _ _) (partR_one _) (by omega) (by simp; omega) ?_; intro v7 w7 O7 k7; obtain ⟨a7, c7, rfl⟩ := O7.sl; have HO7 := Lib.hid O7; have HK7 := Lib.hid k7; have B7 := (H.out.out_.alloc _).keeps k7 (fun e => by obtain ⟨_, cs, hc⟩ := e; exact absurd rfl (hc.ne_ (H.out.out_.alloc _) (by decide))); have D7 := (H.out.dat.alloc _).keeps k7 (fun e => by obtain ⟨_, cs, hc⟩ := e; exact absurd rfl (hc.ne_ (H.out.dat.alloc _) (by decide))); have y0 := B7.cell 0; have z0 := B7.frozen 0; have y1 := D7.cell 0; have z1 := D7.frozen 0; simp at y0 y1; have HB7 := Lib.hid B7; have HD7 := Lib.hid D7; clear O7 k7 B7 D7)))
    go_end0
    have hle3 := H.out.le
    have hsz7 : w.heap.size ≤ w7.heap.size := by have := HK7.out.size; simp at this; omega
    have ks : Keeps (fun i => i = bd ∨ i = bo) w7 ((w7.setCell ⟨bo, 0, none⟩ (.slice a7 (out.length + 1) c7)).setCell ⟨bd, 0, none⟩ (.slice none 0 0)) :=
      ((Keeps.refl (fun i => i = bd ∨ i = bo) w7).setCell (p := ⟨bo, 0, none⟩) (fun _ => .inr rfl) _).setCell (p := ⟨bd, 0, none⟩) (fun _ => .inl rfl) _
    have hO7 := HO7.out
    rw [List.length_append] at hO7
    refine ⟨rfl, .slice none 0 0, .slice a7 (out.length + 1) c7, {
      dat := ?_
      out_ := ?_
      own := OwnQ.none_
      parts := ?_
      row := fun r hr => by rw [rowB_zero] at hr; cases hr
      le := ⟨hle3.1, hle3.2.1, by simp; omega⟩ }, .inr rfl, ?_⟩
    · have := (HD7.out.far (p := ⟨bo, 0, none⟩) hbb (.slice a7 (out.length + 1) c7)).set_ 0 (.slice none 0 0)
      simpa using this
    · have := (HB7.out.set_ 0 (.slice a7 (out.length + 1) c7)).far (p := ⟨bd, 0, none⟩) (Ne.symm hbb) (.slice none 0 0)
      simpa using this
    · unfold conP
      rw [if_neg HNE.out]
      exact hO7.keeps ks (fun i _ _ ⟨cs, hc⟩ e => by
        rcases e with rfl | rfl
        · exact hc.ne_ HD7.out (by decide) rfl
        · exact hc.ne_ HB7.out (by decide) rfl)
    · have k7 := grow_alloc _ HK7.out
      exact (k7.mono fun i _ e => .inr (.inr e)).trans (ks.mono fun i _ e => e.imp id .inl)
end Go.Proofs.Ytcblaeleaebinaa
