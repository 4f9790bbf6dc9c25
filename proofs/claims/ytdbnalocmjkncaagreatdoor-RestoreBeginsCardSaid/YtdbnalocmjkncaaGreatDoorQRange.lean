/-
  A range over a function whose rounds may read what the iterator hands them: the law for a loop whose body goes on in every round. No program in sight.
-/
import Derived.Test.YtdbnalocmjkncaaGreatDoorQGround1
import Derived.RangeFuncNested
import Derived.RangeFuncBound
import Derived.RangeFuncCalls
import Derived.RangeFuncLeaves
namespace Go.Proofs.YtdbnalocmjkncaaGreatDoor
open Go.RowKit

/-- beyond B a block that is no row may have turned; else there are new blocks alone -/
def Turn (B : Nat) (W W' : World) : Prop := Keeps (fun i => B ≤ i ∧ ∀ cs t f, W.heap[i]? ≠ some (.cells cs t f)) W W'
/-- what a round leaves: rows of some types, and what is no row, may have changed -/
def Rounds (Ts : TypeId → Prop) (W W' : World) : Prop := Keeps (fun i => (∃ t cs, Ts t ∧ Blk W i t cs) ∨ ∀ cs t f, W.heap[i]? ≠ some (.cells cs t f)) W W'
theorem Turn.none_ {B : Nat} {W W' : World} (h : Keeps (fun _ => False) W W') : Turn B W W' := h.none_
theorem Turn.trans_ {B : Nat} {a b c : World} (h : Turn B a b) (k : Turn B b c) : Turn B a c :=
  Keeps.and_ h k fun i hi e => by
    refine ⟨e.1, fun cs t f ha => ?_⟩
    by_cases hs : B ≤ i ∧ ∀ cs t f, a.heap[i]? ≠ some (.cells cs t f)
    · exact hs.2 cs t f ha
    · exact e.2 cs t f ((h.block i hi hs).trans ha)
theorem keeps_put {S : Nat → Prop} (W : World) (l : Nat) (o : Obj) (h : S l) : Keeps S W (W.putObj l o) := by
  have hg := grownBy_putObj' W l o
  exact (Keeps.refl S W).grown hg (fun k e _ => by cases e; exact h)
theorem Turn.put {B : Nat} {W : World} {l : Nat} {o o' : Obj} (hB : B ≤ l) (h : W.heap[l]? = some o) (ho : o.isCells = false) : Turn B W (W.putObj l o') :=
  keeps_put W l o' ⟨hB, fun cs t f e => by rw [h] at e; cases e; cases ho⟩
/-- the iterator hands over x, of which Nx holds -/
theorem range_own {P : Program} {g : Operand} {ps : Array Tmp} {assign body : Code} {Q : Exit → Act → World → Prop} {a : Act} {w : World} {n : Nat}
    {gf : Nat} {lb : Array Value} (hg : a.eval g = .func (.func gf) #[] lb) (eg : ∀ args w, (callFunc gf args).run P w = .ok (.enter gf args) w)
    {α : Type} (encs : α → Array Value) (hps : ∀ x, (encs x).size = ps.size) (Ts : TypeId → Prop) (I : List α → World → Prop) (Nx : List α → α → Nat → World → Prop)
    (hI : ∀ s W W', I s W → Turn w.heap.size W W' → I s W') (hN : ∀ s x k W W', Nx s x k W → Turn w.heap.size W W' → Nx s x k W') (h0 : I [] w) (a₁ : α → Act)
    (hassign : ∀ (l : Nat) (x : α) (W : World) (K : Act → World → Prop), K (a₁ x) W →
      assign.wpIn (Fence.wide.inRound l) n P (Exit.then K (fun _ _ _ => False)) { tmps := (ps.zip (encs x)).foldl (fun t (p, v) => t.setIfInBounds p v) a.tmps, defers := [] } W)
    (hbody : ∀ (l : Nat) (pre : List α) (x : α) (W0 W : World), I pre W0 → Turn w.heap.size W0 W → Nx pre x W0.heap.size W →
      body.wpIn (Fence.wide.inRound l) n P (fun e _ W' => e = .normal ∧ Keeps (fun i => ∃ t cs, Ts t ∧ Blk W i t cs) W W' ∧ I (pre ++ [x]) W') (a₁ x) W)
    (S : List α → Prop)
    (hcall : ∀ (l : Nat) (J : List α → World → Prop) (W : World), Turn w.heap.size w W → (∀ s W W', J s W → Keeps (fun _ => False) W W' → J s W') →
      (∀ pre x W0 W1, J pre W0 → Keeps (fun _ => False) W0 W1 → Nx pre x W0.heap.size W1 → YieldAt Fence.wide n P l (encs x) W1 fun e W' => e = .returned (.bool true) ∧ J (pre ++ [x]) W' ∧ Rounds Ts W1 W') → J [] W →
      CallsIn Fence.wide (n + 1) P gf (#[.func (.yield l) #[] #[]] ++ lb) W fun e W' => (∃ v, e = .returned v) ∧ ∃ xs, S xs ∧ J xs W')
    (hdone : ∀ (D : Nat) (xs : List α) (W : World), w.heap.size ≤ D → S xs → I xs W → W.heap[D]? = some (.deferred (some [])) → Q .normal { a with defers := { target := .collected D, args := #[] } :: a.defers } W) :
    (Code.rangeFunc g ps assign body).wpIn Fence.wide (n + 2) P Q a w := by
  refine wpIn_rangeFunc fun fn hfn => ?_
  obtain ⟨rec, hrec⟩ : ∃ rec : LoopState → Option Code → Loop, rec = fun st pe => { state := st, pending := pe, fn, tmps := a.tmps, params := ps, assign, body, defers := w.heap.size } := ⟨_, rfl⟩
  obtain ⟨W1, hW1⟩ : ∃ W1, W1 = (w.alloc (.deferred (some []))).alloc (.loop (rec .ready none)) := ⟨_, rfl⟩
  have k1 : Keeps (fun _ => False) w W1 := by rw [hW1]; exact ((Keeps.refl _ _).alloc _).alloc _
  have hL1 : W1.heap[w.heap.size + 1]? = some (.loop (rec .ready none)) := by
    rw [hW1]
    have := World.alloc_heap_new (w.alloc (.deferred (some []))) (.loop (rec .ready none))
    rwa [World.size_alloc] at this
  have hD1 : W1.heap[w.heap.size]? = some (.deferred (some [])) := by
    rw [hW1]
    exact (Below.heap_alloc _ _ _ (by simp)).trans (World.alloc_heap_new w _)
  refine ⟨w.heap.size + 1, [{ target := .collected w.heap.size, args := #[] }], W1, { target := .fn (.func gf) lb, args := #[.func (.yield (w.heap.size + 1)) #[] #[]] }, W1, gf,
    #[.func (.yield (w.heap.size + 1)) #[] #[]] ++ lb, W1, ?_, ?_, fun _ _ => trivial, ?_, (fun h => by cases h), ?_⟩
  · rw [hW1, hrec]; exact run_enterLoop_outer _ _ _ _ _
  · simp only [resolve, hg]
    simp [go_sem]
  · simp [invoke, go_sem, eg]
  · -- the book: the record is ready, and no call is deferred
    refine (hcall (w.heap.size + 1) (fun pre W => I pre W ∧ W.heap[w.heap.size + 1]? = some (.loop (rec .ready none)) ∧ W.heap[w.heap.size]? = some (.deferred (some []))) W1 (Turn.none_ k1)
      (fun s A B hs kk => ⟨hI s A B hs.1 (Turn.none_ kk), (kk.block _ (Array.getElem?_eq_some_iff.1 hs.2.1).1 id).trans hs.2.1, (kk.block _ (Array.getElem?_eq_some_iff.1 hs.2.2).1 id).trans hs.2.2⟩) ?_ ⟨hI _ _ _ h0 (Turn.none_ k1), hL1, hD1⟩).mono ?_
    · rintro pre x W0 W ⟨hi, hl, hd⟩ k01 hx
      replace hl : W.heap[w.heap.size + 1]? = _ := (k01.block _ (Array.getElem?_eq_some_iff.1 hl).1 id).trans hl
      replace hd : W.heap[w.heap.size]? = _ := (k01.block _ (Array.getElem?_eq_some_iff.1 hd).1 id).trans hd
      have hlt : w.heap.size + 1 < W.heap.size := (Array.getElem?_eq_some_iff.1 hl).1
      have hy := run_yield (P := P) (args := encs x) hl (by rw [hrec]; exact hps x)
      rw [hrec] at hy
      refine ⟨fn, _, assign, body, hy, roundIn_of_wpIn hfn (hassign _ x W _ ⟨_, run_beginRound hl (by rw [hrec]), ?_⟩)⟩
      obtain ⟨W2, hW2⟩ : ∃ W2, W2 = W.putObj (w.heap.size + 1) (.loop { rec .ready none with state := .busy }) := ⟨_, rfl⟩
      rw [← hW2]
      have t2 : Turn w.heap.size W W2 := by rw [hW2]; exact Turn.put (by omega) hl rfl
      have p2 : Keeps (fun i => i = w.heap.size + 1) W W2 := by rw [hW2]; exact keeps_put _ _ _ rfl
      have hl2 : W2.heap[w.heap.size + 1]? = some (.loop { rec .ready none with state := .busy }) := by rw [hW2]; exact World.putObj_heap_same hlt
      have hd2 : W2.heap[w.heap.size]? = some (.deferred (some [])) := by rw [hW2]; exact (World.putObj_heap_other (by omega)).trans hd
      refine wpIn_mono (hbody _ pre x W0 W2 hi ((Turn.none_ k01).trans_ t2) (hN _ _ _ _ _ hx t2)) ?_
      rintro e a3 W3 ⟨rfl, k3, hi3⟩
      have hnb : ∀ (i : Nat) (o : Obj), W2.heap[i]? = some o → o.isCells = false → W3.heap[i]? = some o := fun i o ho hc =>
        (k3.block i (Array.getElem?_eq_some_iff.1 ho).1 (fun ⟨t, cs, _, hb⟩ => by unfold Blk at hb; rw [ho] at hb; cases hb; cases hc)).trans ho
      have hl3 := hnb _ _ hl2 rfl
      have hd3 := hnb _ _ hd2 rfl
      have hr := run_endRound (P := P) none hl3
      obtain ⟨W4, hW4⟩ : ∃ W4, W4 = W3.putObj (w.heap.size + 1) (.loop (rec .ready none)) := ⟨_, rfl⟩
      have t4 : Turn w.heap.size W3 W4 := by rw [hW4]; exact Turn.put (by omega) hl3 rfl
      have p4 : Keeps (fun i => i = w.heap.size + 1) W3 W4 := by rw [hW4]; exact keeps_put _ _ _ rfl
      refine ⟨_, W4, by rw [hW4]; rw [hrec] at hr ⊢; exact hr, rfl, ⟨hI _ _ _ hi3 t4, ?_, ?_⟩, ?_⟩
      · rw [hW4]; exact World.putObj_heap_same (Array.getElem?_eq_some_iff.1 hl3).1
      · rw [hW4]; exact (World.putObj_heap_other (by omega)).trans hd3
      · have q2 : Rounds Ts W W2 := p2.mono fun i _ e => .inr fun cs t f h => by rw [e] at h; rw [hl] at h; cases h
        refine ((q2.and_ k3 ?_).and_ p4 ?_)
        · rintro i hi' ⟨t, cs, ht, hb⟩
          by_cases e : i = w.heap.size + 1
          · unfold Blk at hb; rw [e, hl2] at hb; cases hb
          · left
            refine ⟨t, cs, ht, ?_⟩
            unfold Blk at hb ⊢
            rw [← p2.block i hi' e]; exact hb
        · intro i _ e
          exact .inr fun cs t f h => by rw [e] at h; rw [hl] at h; cases h
    · rintro e W2 ⟨⟨v, rfl⟩, xs, hS, hi, hl, hd⟩
      refine ⟨none, _, by have := run_endLoop (P := P) hl (by rw [hrec]; simp); rw [hrec] at this; exact this, hdone _ xs _ (Nat.le_refl _) hS (hI _ _ _ hi (Turn.put (by omega) hl rfl)) ((World.putObj_heap_other (by omega)).trans hd)⟩
end Go.Proofs.YtdbnalocmjkncaaGreatDoor
