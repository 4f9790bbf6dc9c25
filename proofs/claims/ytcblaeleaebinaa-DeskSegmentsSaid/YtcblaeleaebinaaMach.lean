/-
  What a splitter takes apart, plainly: over whatever pieces, the console's bytes and the replies of the items.
-/
import Derived.Test.YtcblaeleaebinaaFeedB
import Derived.Test.YtcblaeleaebinaaItems
namespace Go.Proofs.Ytcblaeleaebinaa
open Go.RowKit

abbrev MS := Nat × List UInt8 × List UInt8 × List (List UInt8)
/-- one byte more: where one is, what of a reply is there, all console's bytes, all replies -/
def m1 (st : MS) (c : UInt8) : MS :=
  let r := stepP st.1 st.2.1 c
  (r.1.1, if r.2.2 then [] else r.1.2, st.2.2.1 ++ r.2.1, if r.2.2 then st.2.2.2 ++ [r.1.2] else st.2.2.2)
def mrun (st : MS) (s : List UInt8) : MS := s.foldl m1 st
theorem mrun_app (st : MS) (s t : List UInt8) : mrun st (s ++ t) = mrun (mrun st s) t := by unfold mrun; rw [List.foldl_append]
/-- the bytes and the replies grow -/
theorem mrun_grow (st : MS) (s : List UInt8) : (∃ x, st.2.2.1 ++ x = (mrun st s).2.2.1) ∧ ∃ y, st.2.2.2 ++ y = (mrun st s).2.2.2 := by
  induction s generalizing st with
  | nil => exact ⟨⟨[], by simp [mrun]⟩, ⟨[], by simp [mrun]⟩⟩
  | cons c t ih =>
    obtain ⟨⟨x, hx⟩, ⟨y, hy⟩⟩ := ih (m1 st c)
    have e0 : mrun st (c :: t) = mrun (m1 st c) t := rfl
    rw [e0]
    refine ⟨⟨(stepP st.1 st.2.1 c).2.1 ++ x, ?_⟩, ?_⟩
    · rw [← hx, ← List.append_assoc]; rfl
    · by_cases h : (stepP st.1 st.2.1 c).2.2 = true
      · refine ⟨[(stepP st.1 st.2.1 c).1.2] ++ y, ?_⟩
        rw [← hy, ← List.append_assoc]
        unfold m1
        simp only [h, if_true]
      · refine ⟨y, ?_⟩
        rw [← hy]
        unfold m1
        simp only [h]
        rfl
/-- a call of Feed: what it hands back, and what it leaves, is what the machine says -/
theorem feed_mach (a : Nat) (op : List UInt8) (s : List UInt8) (C : List UInt8) (R : List (List UInt8)) (data : List UInt8) (out : List (List UInt8 × Bool)) :
    mrun (a, op, C ++ (consP out ++ data), R ++ repP out) s = ((feedP (a, op, data, out) s).1, (feedP (a, op, data, out) s).2.1, C ++ (consP (feedP (a, op, data, out) s).2.2.2 ++ (feedP (a, op, data, out) s).2.2.1), R ++ repP (feedP (a, op, data, out) s).2.2.2) := by
  induction s generalizing a op data out with
  | nil => rfl
  | cons c t ih =>
    have e0 : feedP (a, op, data, out) (c :: t) = feedP (feed1 (a, op, data, out) c) t := rfl
    have e1 : mrun (a, op, C ++ (consP out ++ data), R ++ repP out) (c :: t) = mrun (m1 (a, op, C ++ (consP out ++ data), R ++ repP out) c) t := rfl
    rw [e0, e1]
    by_cases h : (stepP a op c).2.2 = true
    · have hf : feed1 (a, op, data, out) c = ((stepP a op c).1.1, [], [], out ++ conP (data ++ (stepP a op c).2.1) ++ [((stepP a op c).1.2, true)]) := by
        unfold feed1; simp only [h, if_true]
      have hm : m1 (a, op, C ++ (consP out ++ data), R ++ repP out) c = ((stepP a op c).1.1, [], C ++ (consP (out ++ conP (data ++ (stepP a op c).2.1) ++ [((stepP a op c).1.2, true)]) ++ []), R ++ repP (out ++ conP (data ++ (stepP a op c).2.1) ++ [((stepP a op c).1.2, true)])) := by
        unfold m1
        simp only [h, if_true]
        have hc := consP_con (data ++ (stepP a op c).2.1)
        rw [consP_app, consP_app, repP_app, repP_app, hc.1, hc.2]
        simp [consP, repP]
      rw [hf, hm]
      exact ih _ _ _ _
    · have hf : feed1 (a, op, data, out) c = ((stepP a op c).1.1, (stepP a op c).1.2, data ++ (stepP a op c).2.1, out) := by
        unfold feed1; simp only [h]; rfl
      have hm : m1 (a, op, C ++ (consP out ++ data), R ++ repP out) c = ((stepP a op c).1.1, (stepP a op c).1.2, C ++ (consP out ++ (data ++ (stepP a op c).2.1)), R ++ repP out) := by
        unfold m1; simp only [h]; simp
      rw [hf, hm]
      exact ih _ _ _ _
/-- so what comes back of one call -/
theorem feed_call (a : Nat) (op : List UInt8) (s : List UInt8) (C : List UInt8) (R : List (List UInt8)) :
    mrun (a, op, C, R) s = ((feedP (a, op, [], []) s).1, (feedP (a, op, [], []) s).2.1, C ++ consP ((feedP (a, op, [], []) s).2.2.2 ++ conP (feedP (a, op, [], []) s).2.2.1), R ++ repP ((feedP (a, op, [], []) s).2.2.2 ++ conP (feedP (a, op, [], []) s).2.2.1)) := by
  have h := feed_mach a op s C R [] []
  have hc := consP_con (feedP (a, op, [], []) s).2.2.1
  rw [consP_app, repP_app, hc.1, hc.2, List.append_nil]
  simpa [consP, repP] using h
theorem mrun_dbl (s : List UInt8) (C : List UInt8) (R : List (List UInt8)) : mrun (0, [], C, R) (dblP s) = (0, [], C ++ s, R) := by
  induction s generalizing C with
  | nil => simp [mrun, dblP]
  | cons c t ih =>
    have e0 : dblP (c :: t) = dblP [c] ++ dblP t := by rw [← dblP_app]; rfl
    rw [e0, mrun_app]
    have e1 : mrun (0, [], C, R) (dblP [c]) = (0, [], C ++ [c], R) := by
      by_cases h : c = 255
      · subst h; simp [dblP, mrun, m1, stepP]
      · simp [dblP, mrun, m1, stepP, h]
    rw [e1, ih]; simp
theorem mrun_open (s u : List UInt8) (C : List UInt8) (R : List (List UInt8)) : mrun (2, u, C, R) (dblP s) = (2, u ++ s, C, R) := by
  induction s generalizing u with
  | nil => simp [mrun, dblP]
  | cons c t ih =>
    have e0 : dblP (c :: t) = dblP [c] ++ dblP t := by rw [← dblP_app]; rfl
    rw [e0, mrun_app]
    have e1 : mrun (2, u, C, R) (dblP [c]) = (2, u ++ [c], C, R) := by
      by_cases h : c = 255
      · subst h; simp [dblP, mrun, m1, stepP]
      · simp [dblP, mrun, m1, stepP, h]
    rw [e1, ih]; simp
theorem mrun_told (u : List UInt8) (C : List UInt8) (R : List (List UInt8)) : mrun (0, [], C, R) (toldP u) = (0, [], C, R ++ [u]) := by
  unfold toldP
  rw [List.append_assoc, mrun_app, mrun_app]
  have e1 : mrun (0, [], C, R) [255, 1] = (2, [], C, R) := by simp [mrun, m1, stepP]
  rw [e1, mrun_open]
  simp [mrun, m1, stepP]
/-- all of the items -/
theorem mrun_items (l : List It) (C : List UInt8) (R : List (List UInt8)) : mrun (0, [], C, R) ((flI l).map Prod.fst) = (0, [], C ++ consI l, R ++ repsI l) := by
  induction l generalizing C R with
  | nil => simp [flI, mrun, consI, repsI]
  | cons it r ih =>
    have e0 : flI (it :: r) = it.fl ++ flI r := by unfold flI; rw [List.flatMap_cons]
    rw [e0, List.map_append, mrun_app]
    cases it with
    | con s =>
      have e1 : (It.con s).fl.map Prod.fst = dblP s := dblF_fst s
      rw [e1, mrun_dbl, ih]
      simp [consI, repsI]
    | rep u =>
      have e1 : (It.rep u).fl.map Prod.fst = toldP u := markP_fst _
      rw [e1, mrun_told, ih]
      simp [consI, repsI]
/-- some of it, wherever it ends -/
theorem mrun_part (l : List It) (k : Nat) : (∃ x, (mrun (0, [], [], []) (((flI l).take k).map Prod.fst)).2.2.1 ++ x = consI l) ∧ ∃ y, (mrun (0, [], [], []) (((flI l).take k).map Prod.fst)).2.2.2 ++ y = repsI l := by
  have h := mrun_items l [] []
  have e0 : (flI l).map Prod.fst = ((flI l).take k).map Prod.fst ++ ((flI l).drop k).map Prod.fst := by rw [← List.map_append, List.take_append_drop]
  rw [e0, mrun_app] at h
  have hg := mrun_grow (mrun (0, [], [], []) (((flI l).take k).map Prod.fst)) (((flI l).drop k).map Prod.fst)
  rw [h] at hg
  exact hg
end Go.Proofs.Ytcblaeleaebinaa
