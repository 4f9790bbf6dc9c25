/-
  The desk, plain: what waits as one row of bytes, each with a mark where a console's byte or a reply ends.
-/
import Derived.Test.YtcblaeleaebinaaMux
import Derived.Lib.CountLaws
namespace Go.Proofs.Ytcblaeleaebinaa
open Go.RowKit

abbrev Flow := List (UInt8 × Bool)
/-- a reply, or what is begun: its last byte ends it -/
def markP : List UInt8 → Flow
  | [] => []
  | [c] => [(c, true)]
  | c :: d :: t => (c, false) :: markP (d :: t)
/-- a console's bytes as they are sent -/
def dblF (l : List UInt8) : Flow := l.flatMap fun c => if c = 255 then [(255, false), (255, true)] else [(c, true)]

theorem markP_fst : ∀ l : List UInt8, (markP l).map Prod.fst = l
  | [] => rfl
  | [c] => rfl
  | c :: d :: t => by rw [markP, List.map_cons, markP_fst (d :: t)]
theorem markP_len (l : List UInt8) : (markP l).length = l.length := by
  have := congrArg List.length (markP_fst l); simpa using this
theorem markP_drop : ∀ (l : List UInt8) (k : Nat), (markP l).drop k = markP (l.drop k)
  | [], k => by simp [markP]
  | [c], 0 => rfl
  | [c], k + 1 => by simp [markP]
  | c :: d :: t, 0 => rfl
  | c :: d :: t, k + 1 => by rw [markP, List.drop_succ_cons, List.drop_succ_cons]; exact markP_drop (d :: t) k
/-- the mark of a byte of what is begun: it is the last one, or not -/
theorem markP_get : ∀ (l : List UInt8) (k : Nat) (c : UInt8 × Bool), (markP l)[k]? = some c → (c.2 = true ↔ k + 1 = l.length)
  | [], k, c, h => by simp [markP] at h
  | [a], 0, c, h => by simp [markP] at h; subst h; simp
  | [a], k + 1, c, h => by simp [markP] at h
  | a :: b :: t, 0, c, h => by simp [markP] at h; subst h; simp
  | a :: b :: t, k + 1, c, h => by
    rw [markP, List.getElem?_cons_succ] at h
    have := markP_get (b :: t) k c h
    simp only [List.length_cons] at this ⊢
    rw [this]; omega
theorem dblF_fst (l : List UInt8) : (dblF l).map Prod.fst = dblP l := by
  unfold dblF dblP
  induction l with
  | nil => rfl
  | cons c t ih => rw [List.flatMap_cons, List.flatMap_cons, List.map_append, ih]; split <;> rfl
theorem dblF_len (l : List UInt8) : (dblF l).length = (dblP l).length := by rw [← dblF_fst]; simp
theorem dblF_app (a b : List UInt8) : dblF (a ++ b) = dblF a ++ dblF b := by unfold dblF; rw [List.flatMap_append]
theorem dblP_app (a b : List UInt8) : dblP (a ++ b) = dblP a ++ dblP b := by unfold dblP; rw [List.flatMap_append]
theorem dblP_count (l : List UInt8) : (dblP l).length = l.length + Lib.countByte l 255 := by
  unfold dblP
  induction l with
  | nil => rfl
  | cons c t ih => 
    rw [List.flatMap_cons, List.length_append, ih]
    unfold Lib.countByte
    by_cases h : c = 255
    · subst h; rw [if_pos rfl, List.count_cons_self]; simp only [List.length_cons, List.length_nil]; omega
    · rw [if_neg h, List.count_cons_of_ne h]; simp only [List.length_cons, List.length_nil]; omega
theorem dblP_pos {l : List UInt8} (h : l ≠ []) : 1 ≤ (dblP l).length := by
  rw [dblP_count]
  have := List.length_pos_iff.2 h
  omega

/-- a past: the blocks in which it lies, how much it keeps, and all that was told -/
structure PastD where
  g : Nat
  b : Nat
  m : Nat
  A : List UInt8
inductive DPart
  | rep (s : List UInt8)
  | pc (x p f t : Nat)
def DPart.flow (E : Nat → PastD) : DPart → Flow
  | .rep s => markP s
  | .pc _ p f t => dblF (((E p).A.drop f).take (t - f))
def DPart.ok (E : Nat → PastD) : DPart → Prop
  | .rep s => s ≠ []
  | .pc _ p f t => f < t ∧ t ≤ (E p).A.length
def DPart.kept (E : Nat → PastD) : DPart → Prop
  | .rep _ => True
  | .pc _ p f _ => (E p).A.length - (E p).m ≤ f
def DPart.x? : DPart → Option Nat
  | .rep _ => none
  | .pc x _ _ _ => some x
/-- all that waits -/
def flowP (E : Nat → PastD) (bg : List UInt8) (l : List DPart) : Flow := markP bg ++ l.flatMap (DPart.flow E)

/-- the pasts have grown, and are otherwise what they were -/
def Grown (E E' : Nat → PastD) (p : Nat) : Prop := ∃ s, (E' p).A = (E p).A ++ s
theorem DPart.flow_grown {E E' : Nat → PastD} {q : DPart} (ho : q.ok E) (h : ∀ x p f t, q = .pc x p f t → Grown E E' p) : q.flow E' = q.flow E := by
  cases q with
  | rep s => rfl
  | pc x p f t =>
    obtain ⟨s, hs⟩ := h x p f t rfl
    have ho : f < t ∧ t ≤ (E p).A.length := ho
    show dblF (((E' p).A.drop f).take (t - f)) = dblF (((E p).A.drop f).take (t - f))
    rw [hs]
    rw [List.drop_append_of_le_length (by omega), List.take_append_of_le_length (by simp; omega)]
theorem DPart.ok_grown {E E' : Nat → PastD} {q : DPart} (ho : q.ok E) (h : ∀ x p f t, q = .pc x p f t → Grown E E' p) : q.ok E' := by
  cases q with
  | rep s => exact ho
  | pc x p f t =>
    obtain ⟨s, hs⟩ := h x p f t rfl
    have ho : f < t ∧ t ≤ (E p).A.length := ho
    show f < t ∧ t ≤ (E' p).A.length
    rw [hs, List.length_append]; omega
theorem flowP_grown {E E' : Nat → PastD} {l : List DPart} (bg : List UInt8) (ho : ∀ q ∈ l, q.ok E) (h : ∀ q ∈ l, ∀ x p f t, q = DPart.pc x p f t → Grown E E' p) : flowP E' bg l = flowP E bg l := by
  unfold flowP
  congr 1
  induction l with
  | nil => rfl
  | cons q r ih =>
    rw [List.flatMap_cons, List.flatMap_cons, ih (fun q hq => ho q (List.mem_cons_of_mem _ hq)) (fun q hq => h q (List.mem_cons_of_mem _ hq)), DPart.flow_grown (ho q List.mem_cons_self) (h q List.mem_cons_self)]
theorem DPart.flow_pos {E : Nat → PastD} {q : DPart} (ho : q.ok E) : 1 ≤ (q.flow E).length := by
  cases q with
  | rep s =>
    show 1 ≤ (markP s).length
    rw [markP_len]; exact List.length_pos_iff.2 ho
  | pc x p f t =>
    have ho : f < t ∧ t ≤ (E p).A.length := ho
    show 1 ≤ (dblF (((E p).A.drop f).take (t - f))).length
    rw [dblF_len]
    refine dblP_pos (fun h => ?_)
    have := congrArg List.length h
    simp at this; omega
end Go.Proofs.Ytcblaeleaebinaa
