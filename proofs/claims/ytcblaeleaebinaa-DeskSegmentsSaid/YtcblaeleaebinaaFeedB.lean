/-
  mux.Splitter.Feed: what it keeps from byte to byte. Plain.
-/
import Derived.Test.YtcblaeleaebinaaFeed
namespace Go.Proofs.Ytcblaeleaebinaa
open Go.RowKit

abbrev FS := Nat × List UInt8 × List UInt8 × List (List UInt8 × Bool)
/-- one byte more -/
def feed1 (st : FS) (c : UInt8) : FS :=
  let r := stepP st.1 st.2.1 c
  if r.2.2 then (r.1.1, [], [], st.2.2.2 ++ conP (st.2.2.1 ++ r.2.1) ++ [(r.1.2, true)]) else (r.1.1, r.1.2, st.2.2.1 ++ r.2.1, st.2.2.2)
def feedP (st : FS) (s : List UInt8) : FS := s.foldl feed1 st
theorem stepP_le {a : Nat} (op : List UInt8) (c : UInt8) (h : a ≤ 4) : (stepP a op c).1.1 ≤ 4 ∧ (stepP a op c).1.2.length ≤ op.length + 1 ∧ (stepP a op c).2.1.length ≤ 1 := by
  unfold stepP
  repeat' split
  all_goals simp
  all_goals omega

theorem feed_len (st : FS) (s : List UInt8) : (feedP st s).2.1.length ≤ st.2.1.length + s.length ∧ (feedP st s).2.2.1.length ≤ st.2.2.1.length + s.length ∧ (feedP st s).2.2.2.length ≤ st.2.2.2.length + 2 * s.length := by
  induction s generalizing st with
  | nil => exact ⟨Nat.le_refl _, Nat.le_refl _, Nat.le_refl _⟩
  | cons c t ih =>
    have h1 := ih (feed1 st c)
    have h2 : (feed1 st c).2.1.length ≤ st.2.1.length + 1 ∧ (feed1 st c).2.2.1.length ≤ st.2.2.1.length + 1 ∧ (feed1 st c).2.2.2.length ≤ st.2.2.2.length + 2 := by
      have hs : (stepP st.1 st.2.1 c).1.2.length ≤ st.2.1.length + 1 ∧ (stepP st.1 st.2.1 c).2.1.length ≤ 1 := by
        unfold stepP
        repeat' split
        all_goals simp
      have hc : ∀ l, (conP l).length ≤ 1 := fun l => by unfold conP; split <;> simp
      unfold feed1
      simp only
      split
      · have := hc (st.2.2.1 ++ (stepP st.1 st.2.1 c).2.1)
        refine ⟨by simp, by simp, ?_⟩
        simp only [List.length_append, List.length_cons, List.length_nil]; omega
      · simp only [List.length_append]; omega
    show (feedP (feed1 st c) t).2.1.length ≤ _ ∧ (feedP (feed1 st c) t).2.2.1.length ≤ _ ∧ (feedP (feed1 st c) t).2.2.2.length ≤ _
    simp only [List.length_cons]
    omega
theorem feed_snoc (st : FS) (s : List UInt8) (c : UInt8) : feedP st (s ++ [c]) = feed1 (feedP st s) c := by unfold feedP; rw [List.foldl_append]; rfl

structure FeedSt (w wr : World) (sp : Nat) (v0 : Value) (bd bo : Nat) (st : FS) (vs vd vo : Value) : Prop where
  sp_ : Blk wr sp 57 #[.int .i64 st.1, vs]
  op_ : OwnQ wr 5 vs (u8Vs st.2.1)
  fa : FeedAt wr w.heap.size bd bo vd vo st.2.2.1 st.2.2.2
  opr : rowB vs = rowB v0 ∨ (∃ r, rowB vs = some r ∧ w.heap.size ≤ r) ∨ rowB vs = none
  dis : ∀ r, rowB vs = some r → rowB vd ≠ some r
  kk : Keeps (fun i => i = sp ∨ rowB v0 = some i) w wr
  a4 : st.1 ≤ 4

section
variable {w wr w' : World} {sp : Nat} {v0 : Value} {bd bo : Nat} {st : FS} {vs vd vo : Value}
theorem FeedSt.same (h : FeedSt w wr sp v0 bd bo st vs vd vo) (k : Keeps (fun _ => False) wr w') : FeedSt w w' sp v0 bd bo st vs vd vo where
  sp_ := h.sp_.keeps k id
  op_ := h.op_.keeps k (fun _ _ _ => id)
  fa := { dat := h.fa.dat.keeps k id, out_ := h.fa.out_.keeps k id, own := h.fa.own.keeps k (fun _ _ _ => id), parts := h.fa.parts.keeps k (fun _ _ _ _ => id), row := h.fa.row, le := ⟨h.fa.le.1, h.fa.le.2.1, Nat.le_trans h.fa.le.2.2 k.size⟩ }
  opr := h.opr
  dis := h.dis
  kk := h.kk.trans k.none_
  a4 := h.a4
/-- behind step -/
theorem FeedSt.step (h : FeedSt w wr sp v0 bd bo st vs vd vo) {w1 : World} {vs1 : Value} {a1 : Nat} {op1 : List UInt8} (ha : a1 ≤ 4)
    (hb : Blk w1 sp 57 #[.int .i64 a1, vs1]) (ho : OwnQ w1 5 vs1 (u8Vs op1)) (hr : rowB vs1 = rowB vs ∨ ∃ r, rowB vs1 = some r ∧ wr.heap.size ≤ r) (K : Keeps (fun i => i = sp ∨ rowB vs = some i) wr w1) :
    FeedSt w w1 sp v0 bd bo (a1, op1, st.2.2.1, st.2.2.2) vs1 vd vo := by
  have hw := h.kk.size
  have hrow : ∀ r, rowB vs = some r → ∃ cs, Blk wr r 5 cs := h.op_.row
  have hno : ∀ {i : Nat} {t : TypeId} {cs : Array Value}, Blk wr i t cs → t ≠ 57 → t ≠ 5 → ¬ (i = sp ∨ rowB vs = some i) := fun hb1 h1 h2 e => by
    rcases e with rfl | e
    · exact hb1.ne_ h.sp_ h1 rfl
    · obtain ⟨cs2, hb2⟩ := hrow _ e
      exact hb1.ne_ hb2 h2 rfl
  exact {
    sp_ := hb
    op_ := ho
    fa := {
      dat := h.fa.dat.keeps K (hno h.fa.dat (by decide) (by decide))
      out_ := h.fa.out_.keeps K (hno h.fa.out_ (by decide) (by decide))
      own := h.fa.own.keeps K (fun i hi ⟨cs, hc⟩ e => by
        rcases e with rfl | e
        · exact hc.ne_ h.sp_ (by decide) rfl
        · exact h.dis i e hi)
      parts := h.fa.parts.keeps K (fun i _ _ ⟨cs, hc⟩ e => hno hc (by decide) (by decide) e)
      row := h.fa.row
      le := ⟨h.fa.le.1, h.fa.le.2.1, Nat.le_trans h.fa.le.2.2 K.size⟩ }
    opr := by
      rcases hr with hr | ⟨r, hr, hr2⟩
      · rw [hr]; exact h.opr
      · exact .inr (.inl ⟨r, hr, by omega⟩)
    dis := fun r hr1 hr2 => by
      rcases hr with hr | ⟨r', hr, hr3⟩
      · exact h.dis r (hr ▸ hr1) hr2
      · rw [hr] at hr1
        injection hr1 with hr1
        obtain ⟨cs, hc⟩ := h.fa.own.row r hr2
        have := hc.lt
        omega
    kk := h.kk.and_ K (fun i hi e => by
      rcases e with e | e
      · exact .inl e
      · rcases h.opr with h1 | ⟨r, h1, h2⟩ | h1
        · exact .inr (h1 ▸ e)
        · rw [h1] at e; injection e with e; omega
        · rw [h1] at e; cases e)
    a4 := ha }
/-- a byte of the console more -/
theorem FeedSt.byte (h : FeedSt w wr sp v0 bd bo st vs vd vo) {w2 : World} {vd2 : Value} {data2 : List UInt8} (ho : OwnQ w2 5 vd2 (u8Vs data2)) (K : Keeps (fun i => rowB vd = some i) wr w2) (hr : rowB vd2 = rowB vd ∨ rowB vd2 = some wr.heap.size) :
    FeedSt w (w2.setCell ⟨bd, 0, none⟩ vd2) sp v0 bd bo (st.1, st.2.1, data2, st.2.2.2) vs vd2 vo := by
  have hrow : ∀ r, rowB vd = some r → ∃ cs, Blk wr r 5 cs := h.fa.own.row
  have hno : ∀ {i : Nat} {t : TypeId} {cs : Array Value}, Blk wr i t cs → t ≠ 5 → ¬ (rowB vd = some i) := fun hb1 h2 e => by
    obtain ⟨cs2, hb2⟩ := hrow _ e
    exact hb1.ne_ hb2 h2 rfl
  have ks : Keeps (fun i => i = bd) w2 (w2.setCell ⟨bd, 0, none⟩ vd2) := (Keeps.refl (fun i => i = bd) w2).setCell (p := ⟨bd, 0, none⟩) (fun _ => rfl) _
  have hd2 := h.fa.dat.keeps K (hno h.fa.dat (by decide))
  have hle := h.fa.le
  have hs := K.size
  exact {
    sp_ := (h.sp_.keeps K (hno h.sp_ (by decide))).keeps ks (h.sp_.ne_ h.fa.dat (by decide))
    op_ := (h.op_.keeps K (fun i hi _ e => h.dis i hi e)).keeps ks (fun i _ ⟨cs, hc⟩ e => hc.ne_ hd2 (by decide) e)
    fa := {
      dat := by have := hd2.set_ 0 vd2; simpa using this
      out_ := (h.fa.out_.keeps K (hno h.fa.out_ (by decide))).keeps ks (h.fa.out_.ne_ h.fa.dat (by decide))
      own := by
        exact ho.keeps ks (fun i _ ⟨cs, hc⟩ e => hc.ne_ hd2 (by decide) e)
      parts := (h.fa.parts.keeps K (fun i _ _ ⟨cs, hc⟩ e => hno hc (by decide) e)).keeps ks (fun i _ _ ⟨cs, hc⟩ e => hc.ne_ hd2 (by decide) e)
      row := fun r hr2 => by
        rcases hr with hr | hr
        · exact h.fa.row r (hr ▸ hr2)
        · rw [hr] at hr2; injection hr2 with hr2; omega
      le := ⟨hle.1, hle.2.1, by simp; omega⟩ }
    opr := h.opr
    dis := fun r hr1 hr2 => by
      rcases hr with hr | hr
      · exact h.dis r hr1 (hr ▸ hr2)
      · rw [hr] at hr2
        injection hr2 with hr2
        obtain ⟨cs, hc⟩ := h.op_.row r hr1
        have := hc.lt
        omega
    kk := (h.kk.and_ K (fun i hi e => by have := h.fa.row i e; omega)).and_ ks (fun i hi e => by omega)
    a4 := h.a4 }
/-- behind flush -/
theorem FeedSt.flushed (h : FeedSt w wr sp v0 bd bo st vs vd vo) {w2 : World} {vd2 vo2 : Value} {out2 : List (List UInt8 × Bool)} (hf : FeedAt w2 w.heap.size bd bo vd2 vo2 [] out2) (hv : vd2 = vd ∨ vd2 = .slice none 0 0)
    (K : Keeps (fun i => i = bd ∨ i = bo ∨ (w.heap.size ≤ i ∧ ∃ cs, Blk wr i 95 cs)) wr w2) : FeedSt w w2 sp v0 bd bo (st.1, st.2.1, [], out2) vs vd2 vo2 := by
  have hle := h.fa.le
  have hno : ∀ {i : Nat} {t : TypeId} {cs : Array Value}, Blk wr i t cs → t ≠ 55 → t ≠ 59 → t ≠ 95 → ¬ (i = bd ∨ i = bo ∨ (w.heap.size ≤ i ∧ ∃ cs, Blk wr i 95 cs)) := fun hb1 h1 h2 h3 e => by
    rcases e with rfl | rfl | ⟨_, cs2, hb2⟩
    · exact hb1.ne_ h.fa.dat h1 rfl
    · exact hb1.ne_ h.fa.out_ h2 rfl
    · exact hb1.ne_ hb2 h3 rfl
  exact {
    sp_ := h.sp_.keeps K (hno h.sp_ (by decide) (by decide) (by decide))
    op_ := h.op_.keeps K (fun i _ ⟨cs, hc⟩ e => hno hc (by decide) (by decide) (by decide) e)
    fa := hf
    opr := h.opr
    dis := fun r hr1 hr2 => by
      rcases hv with rfl | rfl
      · exact h.dis r hr1 hr2
      · rw [rowB_zero] at hr2; cases hr2
    kk := h.kk.and_ K (fun i hi e => by rcases e with e | e | ⟨e, _⟩ <;> omega)
    a4 := h.a4 }
/-- a reply's end: what was open is told, and is open no more -/
theorem FeedSt.reply (h : FeedSt w wr sp v0 bd bo st vs vd vo) {w2 : World} {vo2 : Value} (hp : OwnS partR 2 w2 w.heap.size 95 vo2 (st.2.2.2 ++ [(st.2.1, true)])) (K : Keeps (fun i => w.heap.size ≤ i ∧ ∃ cs, Blk wr i 95 cs) wr w2) :
    FeedSt w ((w2.setCell ⟨bo, 0, none⟩ vo2).setCell ⟨sp, 1, none⟩ (.slice none 0 0)) sp v0 bd bo (st.1, [], st.2.2.1, st.2.2.2 ++ [(st.2.1, true)]) (.slice none 0 0) vd vo2 := by
  have hle := h.fa.le
  have hs := K.size
  have hno : ∀ {i : Nat} {t : TypeId} {cs : Array Value}, Blk wr i t cs → t ≠ 95 → ¬ (w.heap.size ≤ i ∧ ∃ cs, Blk wr i 95 cs) := fun hb1 h3 e => by
    obtain ⟨_, cs2, hb2⟩ := e
    exact hb1.ne_ hb2 h3 rfl
  have hsp2 := h.sp_.keeps K (hno h.sp_ (by decide))
  have hbd2 := h.fa.dat.keeps K (hno h.fa.dat (by decide))
  have hbo2 := h.fa.out_.keeps K (hno h.fa.out_ (by decide))
  have ks : Keeps (fun i => i = bo ∨ i = sp) w2 ((w2.setCell ⟨bo, 0, none⟩ vo2).setCell ⟨sp, 1, none⟩ (.slice none 0 0)) :=
    ((Keeps.refl (fun i => i = bo ∨ i = sp) w2).setCell (p := ⟨bo, 0, none⟩) (fun _ => .inl rfl) _).setCell (p := ⟨sp, 1, none⟩) (fun _ => .inr rfl) _
  have hsb : sp ≠ bo := hsp2.ne_ hbo2 (by decide)
  exact {
    sp_ := by have := (hsp2.far (p := ⟨bo, 0, none⟩) hsb vo2).set_ 1 (.slice none 0 0); simpa using this
    op_ := OwnQ.none_
    fa := {
      dat := hbd2.keeps ks (fun e => by rcases e with e | e; exact hbd2.ne_ hbo2 (by decide) e; exact hbd2.ne_ hsp2 (by decide) e)
      out_ := by have := (hbo2.set_ 0 vo2).far (p := ⟨sp, 1, none⟩) (Ne.symm hsb) (.slice none 0 0); simpa using this
      own := (h.fa.own.keeps K (fun i _ ⟨cs, hc⟩ e => hno hc (by decide) e)).keeps ks (fun i _ ⟨cs, hc⟩ e => by
        rcases e with rfl | rfl
        · exact hc.ne_ hbo2 (by decide) rfl
        · exact hc.ne_ hsp2 (by decide) rfl)
      parts := hp.keeps ks (fun i _ _ ⟨cs, hc⟩ e => by
        rcases e with rfl | rfl
        · exact hc.ne_ hbo2 (by decide) rfl
        · exact hc.ne_ hsp2 (by decide) rfl)
      row := h.fa.row
      le := ⟨hle.1, hle.2.1, by simp; omega⟩ }
    opr := .inr (.inr (rowB_zero _ _))
    dis := fun r hr1 => by rw [rowB_zero] at hr1; cases hr1
    kk := (h.kk.and_ K (fun i hi e => by omega)).and_ ks (fun i hi e => by
      rcases e with e | e
      · omega
      · exact .inl e)
    a4 := h.a4 }
end
end Go.Proofs.Ytcblaeleaebinaa
