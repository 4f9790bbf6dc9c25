/-
  DeskSegments: what a desk, a past, a splitter, what was told and what came are while the acts go on. Plain.
-/
import Derived.Test.YtcblaeleaebinaaCuts
import Derived.Test.YtcblaeleaebinaaMach
import Derived.Test.YtcblaeleaebinaaParts
namespace Go.Proofs.Ytcblaeleaebinaa
open Go.RowKit

/-- blocks of a desk's types alone -/
def Typed (w : World) (F : Nat → Prop) : Prop := ∀ i, F i → (∃ cs, Blk w i 72 cs) ∨ (∃ cs, Blk w i 79 cs) ∨ (∃ cs, Blk w i 81 cs)
theorem BenchF.typed {w0 w : World} {p g b m d : Nat} {F : Nat → Prop} {A : List UInt8} {most : Nat} {bg : List UInt8} {FL : Flow} (h : BenchF w0 w p g b m d F A most bg FL) : ∃ F1, BenchF w0 w p g b m d F1 A most bg FL ∧ Typed w F1 := by
  obtain ⟨l, v, h3, h4, h5⟩ := h.desk
  have hF : ∀ i, (i = d ∨ rowB v = some i ∨ i ∈ l.filterMap DPart.x?) → F i := fun i hi => by
    rcases hi with rfl | hi | hi
    · exact h3.inD
    · exact h3.inV i hi
    · exact h3.inX i hi
  refine ⟨fun i => i = d ∨ rowB v = some i ∨ i ∈ l.filterMap DPart.x?, {
    kk := h.kk
    past := h.past
    lo := h.lo
    lim := h.lim
    nF := ⟨fun e => h.nF.1 (hF _ e), fun e => h.nF.2.1 (hF _ e), fun e => h.nF.2.2 (hF _ e)⟩
    F0 := fun i hi => h.F0 i (hF i hi)
    desk := ⟨l, v, { h3 with inD := .inl rfl, inV := fun i hi => .inr (.inl hi), inX := fun x hx => .inr (.inr hx) }, h4, h5⟩ }, fun i hi => ?_⟩
  rcases hi with rfl | hi | hi
  · exact .inl ⟨_, h3.top⟩
  · exact .inr (.inl (h3.own.row i hi))
  · obtain ⟨q, hq, hx⟩ := List.mem_filterMap.1 hi
    cases q with
    | rep s => cases hx
    | pc x p' f t =>
      obtain rfl : x = i := by injection hx
      exact .inr (.inr ⟨_, (h3.pcs _ hq).1⟩)
theorem Typed.not {w : World} {F : Nat → Prop} (h : Typed w F) {i : Nat} {t : TypeId} {cs : Array Value} (hb : Blk w i t cs) (h1 : t ≠ 72) (h2 : t ≠ 79) (h3 : t ≠ 81) : ¬ F i := fun e => by
  rcases h i e with ⟨cs2, hb2⟩ | ⟨cs2, hb2⟩ | ⟨cs2, hb2⟩
  · exact hb.ne_ hb2 h1 rfl
  · exact hb.ne_ hb2 h2 rfl
  · exact hb.ne_ hb2 h3 rfl

/-- the splitter, what was told, and what came -/
structure Side (w0 wr : World) (p g b sp : Nat) (a : Nat) (op : List UInt8) (vs tv gv : Value) (told : List ByteArray) (got : List (List UInt8 × Bool)) : Prop where
  sp_ : Blk wr sp 57 #[.int .i64 a, vs]
  op_ : OwnQ wr 5 vs (u8Vs op)
  row : OwnQ wr 9 tv (told.map Value.string)
  gots : OwnS partR 2 wr w0.heap.size 52 gv got
  splo : w0.heap.size ≤ sp ∧ sp ≠ p ∧ sp ≠ g ∧ sp ≠ b
  vslo : ∀ r, rowB vs = some r → w0.heap.size ≤ r ∧ r ≠ p ∧ r ≠ g ∧ r ≠ b
  tvlo : ∀ r, rowB tv = some r → w0.heap.size ≤ r ∧ r ≠ p ∧ r ≠ g ∧ r ≠ b
  gvlo : ∀ r, gv.ownBlock = some r → r ≠ p ∧ r ≠ g ∧ r ≠ b
  a4 : a ≤ 4

section
variable {w0 wr w' : World} {p g b d sp a : Nat} {F : Nat → Prop} {op : List UInt8} {vs tv gv : Value} {told : List ByteArray} {got : List (List UInt8 × Bool)}
/-- a step of the desk, or of the past -/
theorem Side.keeps (h : Side w0 wr p g b sp a op vs tv gv told got) (ht : Typed wr F) (K : Keeps (fun i => F i ∨ i = p ∨ i = g ∨ i = b) wr w') : Side w0 w' p g b sp a op vs tv gv told got where
  sp_ := h.sp_.keeps K (fun e => by
    have := h.splo
    rcases e with e | e | e | e
    · exact ht.not h.sp_ (by decide) (by decide) (by decide) e
    · exact this.2.1 e
    · exact this.2.2.1 e
    · exact this.2.2.2 e)
  op_ := h.op_.keeps K (fun i hi ⟨cs, hc⟩ e => by
    have := h.vslo i hi
    rcases e with e | e | e | e
    · exact ht.not hc (by decide) (by decide) (by decide) e
    · exact this.2.1 e
    · exact this.2.2.1 e
    · exact this.2.2.2 e)
  row := h.row.keeps K (fun i hi ⟨cs, hc⟩ e => by
    have := h.tvlo i hi
    rcases e with e | e | e | e
    · exact ht.not hc (by decide) (by decide) (by decide) e
    · exact this.2.1 e
    · exact this.2.2.1 e
    · exact this.2.2.2 e)
  gots := by
    have hg := h.gvlo
    rcases h.gots with ⟨h1, h2 | ⟨g7, cap, cur, hv, hB, hb, hr⟩⟩
    · exact ⟨h1, .inl h2⟩
    · have hb7 : Blk wr g7 52 cur := hb
      have := hg g7 (by rw [hv]; rfl)
      exact ⟨h1, .inr ⟨g7, cap, cur, hv, hB, hb7.keeps K (fun e => by
        rcases e with e | e | e | e
        · exact ht.not hb7 (by decide) (by decide) (by decide) e
        · exact this.1 e
        · exact this.2.1 e
        · exact this.2.2 e), hr⟩⟩
  splo := h.splo
  vslo := h.vslo
  tvlo := h.tvlo
  gvlo := h.gvlo
  a4 := h.a4
theorem Side.same (h : Side w0 wr p g b sp a op vs tv gv told got) (k : Keeps (fun _ => False) wr w') : Side w0 w' p g b sp a op vs tv gv told got where
  sp_ := h.sp_.keeps k id
  op_ := h.op_.keeps k (fun _ _ _ => id)
  row := h.row.keeps k (fun _ _ _ => id)
  gots := h.gots.keeps k (fun _ _ _ _ => id)
  splo := h.splo
  vslo := h.vslo
  tvlo := h.tvlo
  gvlo := h.gvlo
  a4 := h.a4
end

/-- all of it, at a round's head -/
structure Seg (w0 wr : World) (p g b d sp : Nat) (F : Nat → Prop) (pre all : ByteArray) (its : List It) (k : Nat) (bg : List UInt8) (a : Nat) (op : List UInt8) (vs tv gv : Value) (told : List ByteArray) (got : List (List UInt8 × Bool)) : Prop where
  bench : BenchF w0 wr p g b 8000 d F (pre.data.toList ++ all.data.toList) 1048576 bg ((flI its).drop k)
  typed : Typed wr F
  side : Side w0 wr p g b sp a op vs tv gv told got
  le : k ≤ (flI its).length
  cons : consI its = all.data.toList
  reps : repsI its = told.map fun s => s.data.toList
  mach : mrun (0, [], [], []) (((flI its).take k).map Prod.fst) = (a, op, consP got, repP got)
section
variable {w0 wr w' : World} {p g b d sp a k : Nat} {F : Nat → Prop} {pre all : ByteArray} {its : List It} {bg op : List UInt8} {vs tv gv : Value} {told : List ByteArray} {got : List (List UInt8 × Bool)}
theorem Seg.same (h : Seg w0 wr p g b d sp F pre all its k bg a op vs tv gv told got) (kk : Keeps (fun _ => False) wr w') : ∃ F', Seg w0 w' p g b d sp F' pre all its k bg a op vs tv gv told got := by
  obtain ⟨F1, h1, h2⟩ := (h.bench.same kk).typed
  exact ⟨F1, { h with bench := h1, typed := h2, side := h.side.same kk }⟩
/-- what came so far is a beginning -/
theorem Seg.fine (h : Seg w0 wr p g b d sp F pre all its k bg a op vs tv gv told got) : (∃ x, consP got ++ x = all.data.toList) ∧ ∃ y, repP got ++ y = told.map fun s => s.data.toList := by
  have hm := mrun_part its k
  rw [h.mach, h.cons, h.reps] at hm
  exact hm
/-- the console tells -/
theorem Seg.shown (h : Seg w0 wr p g b d sp F pre all its k bg a op vs tv gv told got) {F' : Nat → Prop} {all2 : ByteArray} (s : ByteArray) (K : Keeps (fun i => F i ∨ i = p ∨ i = g ∨ i = b) wr w')
    (h2 : all2.data.toList = all.data.toList ++ s.data.toList) (hB : BenchF w0 w' p g b 8000 d F' (pre.data.toList ++ all2.data.toList) 1048576 bg ((flI its).drop k ++ dblF s.data.toList)) :
    ∃ F2, Seg w0 w' p g b d sp F2 pre all2 (its ++ [.con s.data.toList]) k bg a op vs tv gv told got := by
  have e0 : flI (its ++ [.con s.data.toList]) = flI its ++ dblF s.data.toList := by rw [flI_app]; simp [flI, It.fl]
  rw [← List.drop_append_of_le_length h.le, ← e0] at hB
  obtain ⟨F2, h3, h4⟩ := hB.typed
  exact ⟨F2, {
    bench := h3
    typed := h4
    side := h.side.keeps h.typed K
    le := by rw [e0, List.length_append]; have := h.le; omega
    cons := by rw [consI_app, h.cons, h2]; simp [consI]
    reps := by rw [repsI_app, h.reps]; simp [repsI]
    mach := by rw [e0, List.take_append_of_le_length h.le]; exact h.mach }⟩
end
end Go.Proofs.Ytcblaeleaebinaa
