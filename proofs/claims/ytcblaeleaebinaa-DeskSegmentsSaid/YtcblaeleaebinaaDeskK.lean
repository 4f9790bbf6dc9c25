/-
  The desk: begin, a piece first that is kept: what it leaves, plainly.
-/
import Derived.Test.YtcblaeleaebinaaDeskJ
namespace Go.Proofs.Ytcblaeleaebinaa
open Go.RowKit
theorem drop_cut (A : List UInt8) (f c t : Nat) (h : f + c ≤ t) : (A.drop f).take (t - f) = (A.drop f).take c ++ (A.drop (f + c)).take (t - (f + c)) := by
  have : t - f = c + (t - (f + c)) := by omega
  rw [this, List.take_add, List.drop_drop]
section
variable {w w9 : World} {E : Nat → PastD} {d : Nat} {F : Nat → Prop} {most : Nat} {torn : Bool} {l : List DPart} {v v9 : Value} {x p f t c z : Nat}

theorem kept_len (h1 : f + c ≤ t) : (flowP E [] (.pc x p f t :: l)).length = (dblP (((E p).A.drop f).take c)).length + (dblF (((E p).A.drop (f + c)).take (t - (f + c)))).length + (l.flatMap (DPart.flow E)).length := by
  unfold flowP
  rw [List.flatMap_cons]
  show ([] ++ (dblF (((E p).A.drop f).take (t - f)) ++ _)).length = _
  rw [drop_cut _ f c t h1, dblF_app, List.nil_append, List.length_append, List.length_append, dblF_len ((List.drop f _).take c)]

theorem kept_rest (h : DeskZ w E d F most torn [] (.pc x p f t :: l) v z) (kk : Keeps (fun i => i = d ∨ i = x) w w9) : ∀ q ∈ l, q.at w9 E ∧ q.ok E := fun q hq => by
  refine ⟨?_, (h.pcs q (List.mem_cons_of_mem _ hq)).2⟩
  have h1 := (h.pcs q (List.mem_cons_of_mem _ hq)).1
  cases q with
  | rep s => trivial
  | pc x1 p1 f1 t1 =>
    have h2 : Blk w x1 81 _ := h1
    refine Blk.keeps h2 kk (fun e => ?_)
    rcases e with rfl | rfl
    · exact h2.ne_ h.top (by decide) rfl
    · have := h.dist
      have h3 : (DPart.pc x1 p f t :: l).filterMap DPart.x? = x1 :: l.filterMap DPart.x? := rfl
      rw [h3, List.nodup_cons] at this
      exact this.1 (List.mem_filterMap.2 ⟨_, hq, rfl⟩)

/-- some of it stays -/
theorem kept_stay (h : DeskZ w E d F most torn [] (.pc x p f t :: l) v z) (h2 : f + c < t) (kk : Keeps (fun i => i = d ∨ i = x) w w9)
    (hd : Blk w9 d 72 #[.string (str (dblP (((E p).A.drop f).take c))), v, .int .i64 ((flowP E [] (.pc x p f t :: l)).length + z : Nat), .int .i64 most, .bool torn])
    (hx : Blk w9 x 81 #[.pointer (some ⟨p, 0, none⟩), .int .i64 ((f : Int) + c), .int .i64 t, .int .i64 (((dblF (((E p).A.drop f).take (t - f))).length : Int) - (dblP (((E p).A.drop f).take c)).length)]) :
    Keeps F w w9 ∧ DeskZ w9 E d F most torn (dblP (((E p).A.drop f).take c)) (.pc x p (f + c) t :: l) v z := by
  have hl := kept_len (E := E) (x := x) (l := l) (p := p) (f := f) (t := t) (c := c) (by omega)
  have hok : f < t ∧ t ≤ (E p).A.length := (h.pcs _ List.mem_cons_self).2
  have hl2 : (flowP E (dblP (((E p).A.drop f).take c)) (.pc x p (f + c) t :: l)).length = (flowP E [] (.pc x p f t :: l)).length := by
    rw [hl]; unfold flowP; rw [List.flatMap_cons, List.length_append, List.length_append, markP_len]; show _ + ((dblF _).length + _) = _; omega
  have hx2 : Blk w9 x 81 #[.pointer (some ⟨p, 0, none⟩), .int .i64 ((f + c : Nat) : Int), .int .i64 t, .int .i64 (dblF (((E p).A.drop (f + c)).take (t - (f + c)))).length] := by
    have : (dblF (((E p).A.drop f).take (t - f))).length = (dblP (((E p).A.drop f).take c)).length + (dblF (((E p).A.drop (f + c)).take (t - (f + c)))).length := by
      rw [drop_cut _ f c t (by omega), dblF_app, List.length_append, dblF_len ((List.drop f _).take c)]
    rw [this] at hx
    have e1 : (((dblP (((E p).A.drop f).take c)).length + (dblF (((E p).A.drop (f + c)).take (t - (f + c)))).length : Nat) : Int) - (dblP (((E p).A.drop f).take c)).length = (dblF (((E p).A.drop (f + c)).take (t - (f + c)))).length := by omega
    rw [e1] at hx
    exact hx
  have hxm : x ∈ (DPart.pc x p f t :: l).filterMap DPart.x? := List.mem_cons_self
  refine ⟨kk.mono fun i _ e => by rcases e with rfl | rfl; exact h.inD; exact h.inX _ hxm, ?_⟩
  exact {
    top := by rw [hl2]; exact hd
    own := h.own.keeps kk fun i hi ⟨cs, hb⟩ e => by
      rcases e with rfl | rfl
      · exact hb.ne_ h.top (by decide) rfl
      · exact hb.ne_ (show Blk w _ 81 _ from (h.pcs _ List.mem_cons_self).1) (by decide) rfl
    pcs := fun q hq => by
      rcases List.mem_cons.1 hq with rfl | hq
      · exact ⟨hx2, h2, hok.2⟩
      · exact kept_rest h kk q hq
    dist := h.dist
    inD := h.inD
    inV := h.inV
    inX := h.inX
    mst := h.mst
    fit := by rw [hl2]; exact h.fit }

/-- it is begun whole -/
theorem kept_go (h : DeskZ w E d F most torn [] (.pc x p f t :: l) v z) (h2 : f + c = t) (kk : Keeps (fun i => i = d ∨ i = x) w w9)
    (hd : Blk w9 d 72 #[.string (str (dblP (((E p).A.drop f).take c))), v9, .int .i64 ((flowP E [] (.pc x p f t :: l)).length + z : Nat), .int .i64 most, .bool torn])
    (ho : OwnQ w9 79 v9 (l.map DPart.val)) (hV : ∀ i, rowB v9 = some i → F i) :
    Keeps F w w9 ∧ DeskZ w9 E d F most torn (dblP (((E p).A.drop f).take c)) l v9 z := by
  have hl := kept_len (E := E) (x := x) (l := l) (p := p) (f := f) (t := t) (c := c) (by omega)
  have hl2 : (flowP E (dblP (((E p).A.drop f).take c)) l).length = (flowP E [] (.pc x p f t :: l)).length := by
    have e0 : t - (f + c) = 0 := by omega
    rw [hl, e0, List.take_zero]; unfold flowP; rw [List.length_append, markP_len]; show _ = _ + 0 + _; omega
  have hxm : x ∈ (DPart.pc x p f t :: l).filterMap DPart.x? := List.mem_cons_self
  have hdist := h.dist
  have h3 : (DPart.pc x p f t :: l).filterMap DPart.x? = x :: l.filterMap DPart.x? := rfl
  refine ⟨kk.mono fun i _ e => by rcases e with rfl | rfl; exact h.inD; exact h.inX _ hxm, ?_⟩
  exact {
    top := by rw [hl2]; exact hd
    own := ho
    pcs := kept_rest h kk
    dist := by rw [h3, List.nodup_cons] at hdist; exact hdist.2
    inD := h.inD
    inV := hV
    inX := fun y hy => h.inX y (by rw [h3]; exact List.mem_cons_of_mem _ hy)
    mst := h.mst
    fit := by rw [hl2]; exact ⟨h.fit.1, by have := h.fit.2; simp at this; omega⟩ }
end
end Go.Proofs.Ytcblaeleaebinaa
