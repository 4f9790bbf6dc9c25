/-
  The desk: Hold, plainly: a piece of a past becomes one of a past of its own.
-/
import Derived.Test.YtcblaeleaebinaaDeskN
namespace Go.Proofs.Ytcblaeleaebinaa
open Go.RowKit

theorem mid_get {α : Type} (pre post : List α) (u u2 : α) (j : Nat) : (pre ++ u2 :: post)[j]? = if j = pre.length then some u2 else (pre ++ u :: post)[j]? := by
  by_cases h : j = pre.length
  · subst h; simp
  · rw [if_neg h]
    rcases Nat.lt_or_ge j pre.length with h1 | h1
    · rw [List.getElem?_append_left h1, List.getElem?_append_left h1]
    · rw [List.getElem?_append_right h1, List.getElem?_append_right h1]
      obtain ⟨k, hk⟩ : ∃ k, j - pre.length = k + 1 := ⟨j - pre.length - 1, by omega⟩
      rw [hk]; simp

theorem OwnQ.set_ {w : World} {e : TypeId} {g off n c : Nat} {pre post : List Value} {u : Value} (u2 : Value) (h : OwnQ w e (.slice (some ⟨g, off, none⟩) n c) (pre ++ u :: post)) :
    OwnQ (w.setCell ⟨g, off + pre.length, none⟩ u2) e (.slice (some ⟨g, off, none⟩) n c) (pre ++ u2 :: post) := by
  rcases h with ⟨h, _⟩ | ⟨g', off', cap', cur, hv, hb, h1, h2, h3, h4⟩
  · simp at h
  · injection hv with ha hn hc
    injection ha with ha
    injection ha with hg ho
    subst hg; subst ho; subst hc
    have hlen : (pre ++ u2 :: post).length = (pre ++ u :: post).length := by simp
    refine .inr ⟨g, off, c, cur.setIfInBounds (off + pre.length) u2, ?_, hb.set_ _ _, ?_, ?_, h3, fun j u' hj => ?_⟩
    · rw [hn, hlen]
    · rw [hlen]; exact h1
    · simpa using h2
    · rw [mid_get pre post u u2 j] at hj
      have hin : off + pre.length < cur.size := by simp at h1; omega
      by_cases hjp : j = pre.length
      · rw [if_pos hjp] at hj
        subst hjp
        rw [Array.getElem?_setIfInBounds_self_of_lt hin]
        exact hj
      · rw [if_neg hjp] at hj
        rw [Array.getElem?_setIfInBounds_ne (by omega)]
        exact h4 j u' hj

structure HoldAt (w0 w : World) (E0 E : Nat → PastD) (d : Nat) (F0 F : Nat → Prop) (most : Nat) (torn : Bool) (bg : List UInt8) (l0 cur : List DPart) (v : Value) (i : Nat) : Prop where
  desk : DeskAt w E d F most torn bg cur v
  flow : flowP E bg cur = flowP E0 bg l0
  past : PastsOk w E F cur
  kept : ∀ q ∈ cur, q.kept E
  len : cur.length = l0.length
  less : ∀ i, F0 i → F i
  more : ∀ i, F i → F0 i ∨ w0.heap.size ≤ i
  kk : Keeps F0 w0 w
  bel : ∀ j, F j → j < w.heap.size
  own : ∀ j, j < i → ∀ x p f t, cur[j]? = some (.pc x p f t) → w0.heap.size ≤ p ∧ w0.heap.size ≤ (E p).g ∧ w0.heap.size ≤ (E p).b

section
variable {w0 w : World} {E0 E : Nat → PastD} {d : Nat} {F0 F : Nat → Prop} {most : Nat} {torn : Bool} {bg : List UInt8} {l0 cur : List DPart} {v : Value} {i : Nat}
theorem HoldAt.same {w' : World} (h : HoldAt w0 w E0 E d F0 F most torn bg l0 cur v i) (k : Keeps (fun _ => False) w w') : HoldAt w0 w' E0 E d F0 F most torn bg l0 cur v i :=
  { h with
    desk := h.desk.keeps k (fun _ _ => id)
    past := h.past.keeps k (fun _ _ h => h.elim)
    kk := h.kk.trans k.none_
    bel := fun j hj => Nat.lt_of_lt_of_le (h.bel j hj) k.size }
theorem HoldAt.rep {s : List UInt8} (h : HoldAt w0 w E0 E d F0 F most torn bg l0 cur v i) (hq : cur[i]? = some (.rep s)) : HoldAt w0 w E0 E d F0 F most torn bg l0 cur v (i + 1) :=
  { h with
    own := fun j hj x p f t hjq => by
      by_cases hji : j = i
      · subst hji; rw [hq] at hjq; cases hjq
      · exact h.own j (by omega) x p f t hjq }

theorem HoldAt.held {pre post : List DPart} {x p f t g x' p' g' b' : Nat} {w3 w4 : World} (h : HoldAt w0 w E0 E d F0 F most torn bg l0 (pre ++ .pc x p f t :: post) v i) (hi : pre.length = i)
    (K3 : Keeps (fun _ => False) w w3) (hp : IsPast w3 p' g' b' (t - f) (((E p).A.drop f).take (t - f))) (hf : w.heap.size ≤ p' ∧ w.heap.size ≤ g' ∧ w.heap.size ≤ b')
    (K4 : Keeps (fun j => j = g) w3 w4) (hg : rowB v = some g) (hx' : w3.heap.size ≤ x')
    (hb : Blk w4 x' 81 #[.pointer (some ⟨p', 0, none⟩), .int .i64 0, .int .i64 ((t - f : Nat) : Int), .int .i64 (dblF (((E p).A.drop f).take (t - f))).length])
    (ho : OwnQ w4 79 v ((pre ++ .pc x' p' 0 (t - f) :: post).map DPart.val)) :
    HoldAt w0 w4 E0 (fun j => if j = p' then ⟨g', b', t - f, ((E p).A.drop f).take (t - f)⟩ else E j) d F0 (fun j => F j ∨ j = x') most torn bg l0 (pre ++ .pc x' p' 0 (t - f) :: post) v (i + 1) := by
  obtain ⟨E', hE'⟩ : ∃ E' : Nat → PastD, E' = fun j => if j = p' then ⟨g', b', t - f, ((E p).A.drop f).take (t - f)⟩ else E j := ⟨_, rfl⟩
  rw [← hE']
  have hmem : DPart.pc x p f t ∈ pre ++ .pc x p f t :: post := by simp
  have hok : f < t ∧ t ≤ (E p).A.length := (h.desk.pcs _ hmem).2
  have e0 : E' p' = ⟨g', b', t - f, ((E p).A.drop f).take (t - f)⟩ := by rw [hE']; simp
  have hsl : (((E p).A.drop f).take (t - f)).length = t - f := by simp; omega
  have hs3 := K3.size
  have hw0 := h.kk.size
  -- the other parts
  have hold : ∀ q, q ∈ pre ∨ q ∈ post → q ∈ pre ++ .pc x p f t :: post := fun q hq => by
    rcases hq with hq | hq
    · exact List.mem_append_left _ hq
    · exact List.mem_append_right _ (List.mem_cons_of_mem _ hq)
  have hEo : ∀ q, q ∈ pre ∨ q ∈ post → ∀ x1 p1 f1 t1, q = DPart.pc x1 p1 f1 t1 → E' p1 = E p1 := fun q hq x1 p1 f1 t1 he => by
    subst he
    have := (h.past _ _ _ _ (hold _ hq)).1.lt
    rw [hE']; simp only; rw [if_neg (by omega)]
  have hgr : ∀ q, q ∈ pre ∨ q ∈ post → ∀ x1 p1 f1 t1, q = DPart.pc x1 p1 f1 t1 → Grown E E' p1 := fun q hq x1 p1 f1 t1 he => ⟨[], by rw [hEo q hq x1 p1 f1 t1 he, List.append_nil]⟩
  have hfl : flowP E' bg (pre ++ .pc x' p' 0 (t - f) :: post) = flowP E bg (pre ++ .pc x p f t :: post) := by
    have h1 : ∀ m : List DPart, (∀ q ∈ m, q ∈ pre ∨ q ∈ post) → m.flatMap (DPart.flow E') = m.flatMap (DPart.flow E) := fun m hm => by
      have := flowP_grown (E := E) (E' := E') (l := m) [] (fun q hq => (h.desk.pcs q (hold q (hm q hq))).2) (fun q hq => hgr q (hm q hq))
      unfold flowP at this
      simpa [markP] using this
    have h2 : DPart.flow E' (.pc x' p' 0 (t - f)) = DPart.flow E (.pc x p f t) := by
      show dblF (((E' p').A.drop 0).take (t - f - 0)) = dblF (((E p).A.drop f).take (t - f))
      rw [e0]
      simp [List.take_take]
    unfold flowP
    rw [List.flatMap_append, List.flatMap_append, List.flatMap_cons, List.flatMap_cons, h1 pre (fun q hq => .inl hq), h1 post (fun q hq => .inr hq), h2]
  have hgF : F g := h.desk.inV g hg
  have hdl := h.desk.top.lt
  have hrow : ∃ cs, Blk w g 79 cs := h.desk.own.row g hg
  have hgd : g ≠ d := by obtain ⟨cs, hb⟩ := hrow; exact hb.ne_ h.desk.top (by decide)
  have hxs : ∀ y ∈ (pre ++ .pc x p f t :: post).filterMap DPart.x?, y < w.heap.size ∧ y ≠ g := fun y hy => by
    obtain ⟨q, hq, hy⟩ := List.mem_filterMap.1 hy
    cases q with
    | rep s => cases hy
    | pc x1 p1 f1 t1 =>
      obtain rfl : x1 = y := by injection hy
      have hb1 : Blk w x1 81 _ := (h.desk.pcs _ hq).1
      obtain ⟨cs, hb2⟩ := hrow
      exact ⟨hb1.lt, hb1.ne_ hb2 (by decide)⟩
  have K34 : Keeps (fun j => j = g) w w4 := K3.none_.trans K4
  have hfm : ∀ (y : Nat) (a b : List DPart) (q : DPart), q.x? = some y → (a ++ q :: b).filterMap DPart.x? = a.filterMap DPart.x? ++ y :: b.filterMap DPart.x? := fun y a b q hq => by
    rw [List.filterMap_append, List.filterMap_cons, hq]
  refine {
    desk := {
      top := by rw [hfl]; exact h.desk.top.keeps K34 (fun e => hgd e.symm)
      own := ho
      pcs := fun q hq => ?_
      dist := ?_
      inD := .inl h.desk.inD
      inV := fun j hj => .inl (h.desk.inV j hj)
      inX := fun y hy => ?_
      mst := h.desk.mst
      fit := by rw [hfl]; have := h.desk.fit; simpa using this }
    flow := by rw [hfl]; exact h.flow
    past := fun x1 p1 f1 t1 hq => ?_
    kept := fun q hq => ?_
    len := by rw [← h.len]; simp
    less := fun j hj => .inl (h.less j hj)
    more := fun j hj => by
      rcases hj with hj | rfl
      · exact h.more j hj
      · exact .inr (by omega)
    kk := h.kk.and_ (K34) (fun j hj e => by
      subst e
      rcases h.more _ hgF with h1 | h1
      · exact h1
      · omega)
    bel := fun j hj => by
      rcases hj with hj | rfl
      · have := h.bel j hj; have := K34.size; omega
      · exact hb.lt
    own := fun j hj x1 p1 f1 t1 hq => ?_ }
  · -- each part's own block
    rcases List.mem_append.1 hq with hq | hq
    · have hq0 := h.desk.pcs q (hold q (.inl hq))
      refine ⟨?_, DPart.ok_grown hq0.2 (hgr q (.inl hq))⟩
      cases q with
      | rep s => trivial
      | pc x1 p1 f1 t1 =>
        show Blk _ _ _ _
        rw [hEo _ (.inl hq) x1 p1 f1 t1 rfl]
        exact Blk.keeps (show Blk w x1 _ _ from hq0.1) K34 (fun e => (hxs x1 (List.mem_filterMap.2 ⟨_, hold _ (.inl hq), rfl⟩)).2 e)
    · rcases List.mem_cons.1 hq with rfl | hq
      · refine ⟨?_, ?_⟩
        · show Blk _ _ _ _
          rw [e0]
          simpa [List.take_take] using hb
        · show 0 < t - f ∧ t - f ≤ (E' p').A.length
          rw [e0]
          show 0 < t - f ∧ t - f ≤ (((E p).A.drop f).take (t - f)).length
          omega
      · have hq0 := h.desk.pcs q (hold q (.inr hq))
        refine ⟨?_, DPart.ok_grown hq0.2 (hgr q (.inr hq))⟩
        cases q with
        | rep s => trivial
        | pc x1 p1 f1 t1 =>
          show Blk _ _ _ _
          rw [hEo _ (.inr hq) x1 p1 f1 t1 rfl]
          exact Blk.keeps (show Blk w x1 _ _ from hq0.1) K34 (fun e => (hxs x1 (List.mem_filterMap.2 ⟨_, hold _ (.inr hq), rfl⟩)).2 e)
  · -- no block twice
    have hd := h.desk.dist
    rw [hfm x pre post _ rfl] at hd hxs
    rw [hfm x' pre post _ rfl]
    rw [List.nodup_append] at hd ⊢
    obtain ⟨d1, d2, d3⟩ := hd
    rw [List.nodup_cons] at d2 ⊢
    refine ⟨d1, ⟨fun hm => ?_, d2.2⟩, fun a ha b hb => ?_⟩
    · have := (hxs x' (List.mem_append_right _ (List.mem_cons_of_mem _ hm))).1; omega
    · rcases List.mem_cons.1 hb with rfl | hb
      · have := (hxs a (List.mem_append_left _ ha)).1; omega
      · exact d3 a ha b (List.mem_cons_of_mem _ hb)
  · rw [hfm x' pre post _ rfl] at hy
    have hin := h.desk.inX
    rw [hfm x pre post _ rfl] at hin
    rcases List.mem_append.1 hy with hy | hy
    · exact .inl (hin y (List.mem_append_left _ hy))
    · rcases List.mem_cons.1 hy with rfl | hy
      · exact .inr rfl
      · exact .inl (hin y (List.mem_append_right _ (List.mem_cons_of_mem _ hy)))
  · -- the pasts
    have hpl := hp.lt
    have old : (DPart.pc x1 p1 f1 t1 ∈ pre ∨ DPart.pc x1 p1 f1 t1 ∈ post) → IsPast w4 p1 (E' p1).g (E' p1).b (E' p1).m (E' p1).A ∧ (E' p1).A.length ≤ 2305843009213693952 ∧ ¬ (F p1 ∨ p1 = x') ∧ ¬ (F (E' p1).g ∨ (E' p1).g = x') ∧ ¬ (F (E' p1).b ∨ (E' p1).b = x') := fun hq => by
      obtain ⟨h1, h2, h3, h4, h5⟩ := h.past _ _ _ _ (hold _ hq)
      rw [hEo _ hq x1 p1 f1 t1 rfl]
      have hl := h1.lt
      exact ⟨h1.keeps K34 (fun e => h3 (e ▸ hgF)) (fun e => h4 (e ▸ hgF)) (fun e => h5 (e ▸ hgF)), h2, fun e => e.elim h3 (by omega), fun e => e.elim h4 (by omega), fun e => e.elim h5 (by omega)⟩
    rcases List.mem_append.1 hq with hq | hq
    · exact old (.inl hq)
    · rcases List.mem_cons.1 hq with he | hq
      · injection he with hx1 hp1 hf1 ht1
        subst hp1
        rw [e0]
        have hgl : g < w.heap.size := by obtain ⟨cs, hb⟩ := hrow; exact hb.lt
        have nF : ∀ j, w.heap.size ≤ j → ¬ F j := fun j hj hF => by have := h.bel j hF; omega
        exact ⟨hp.keeps K4 (by omega) (by omega) (by omega), (by show (((E p).A.drop f).take (t - f)).length ≤ _; have := hp.pos; omega), fun e => e.elim (nF _ hf.1) (by omega), fun e => e.elim (nF _ hf.2.1) (by show ¬ g' = x'; omega), fun e => e.elim (nF _ hf.2.2) (by show ¬ b' = x'; omega)⟩
      · exact old (.inr hq)
  · rcases List.mem_append.1 hq with hq | hq
    · have h1 := h.kept q (hold q (.inl hq))
      cases q with
      | rep s => trivial
      | pc x1 p1 f1 t1 => show (E' p1).A.length - (E' p1).m ≤ f1; rw [hEo _ (.inl hq) x1 p1 f1 t1 rfl]; exact h1
    · rcases List.mem_cons.1 hq with rfl | hq
      · show (E' p').A.length - (E' p').m ≤ 0
        rw [e0]
        show (((E p).A.drop f).take (t - f)).length - (t - f) ≤ 0
        omega
      · have h1 := h.kept q (hold q (.inr hq))
        cases q with
        | rep s => trivial
        | pc x1 p1 f1 t1 => show (E' p1).A.length - (E' p1).m ≤ f1; rw [hEo _ (.inr hq) x1 p1 f1 t1 rfl]; exact h1
  · rw [mid_get pre post (DPart.pc x p f t)] at hq
    by_cases hji : j = pre.length
    · rw [if_pos hji] at hq
      injection hq with hq
      injection hq with hx1 hp1 hf1 ht1
      subst hp1
      rw [e0]
      exact ⟨by omega, by show w0.heap.size ≤ g'; omega, by show w0.heap.size ≤ b'; omega⟩
    · rw [if_neg hji] at hq
      have hmq := List.mem_of_getElem? hq
      have hq2 : DPart.pc x1 p1 f1 t1 ∈ pre ∨ DPart.pc x1 p1 f1 t1 ∈ post := by
        rcases Nat.lt_or_ge j pre.length with h1 | h1
        · rw [List.getElem?_append_left h1] at hq; exact .inl (List.mem_of_getElem? hq)
        · omega
      rw [hEo _ hq2 x1 p1 f1 t1 rfl]
      exact h.own j (by omega) x1 p1 f1 t1 hq
end
end Go.Proofs.Ytcblaeleaebinaa
