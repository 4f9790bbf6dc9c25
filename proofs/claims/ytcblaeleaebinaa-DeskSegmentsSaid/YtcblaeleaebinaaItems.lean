/-
  What was to be sent, item by item: a console's bytes, and replies. Plain.
-/
import Derived.Test.YtcblaeleaebinaaDeskO
import Derived.Test.YtcblaeleaebinaaSplit28
namespace Go.Proofs.Ytcblaeleaebinaa
open Go.RowKit

inductive It
  | con (s : List UInt8)
  | rep (s : List UInt8)
def It.fl : It → Flow
  | .con s => dblF s
  | .rep s => markP (toldP s)
def flI (l : List It) : Flow := l.flatMap It.fl
def consI (l : List It) : List UInt8 := l.flatMap fun | .con s => s | .rep _ => []
def repsI (l : List It) : List (List UInt8) := l.filterMap fun | .con _ => none | .rep s => some s
theorem flI_app (a b : List It) : flI (a ++ b) = flI a ++ flI b := by unfold flI; rw [List.flatMap_append]
theorem consI_app (a b : List It) : consI (a ++ b) = consI a ++ consI b := by unfold consI; rw [List.flatMap_append]
theorem repsI_app (a b : List It) : repsI (a ++ b) = repsI a ++ repsI b := by unfold repsI; rw [List.filterMap_append]
def Marked (F : Flow) (q : Nat) : Prop := q = 0 ∨ ∃ c, F[q - 1]? = some c ∧ c.2 = true

theorem Marked.right {A B : Flow} {q : Nat} (h : Marked (A ++ B) q) (hq : A.length ≤ q) (hA : 0 < A.length) : Marked B (q - A.length) := by
  by_cases h0 : q = A.length
  · exact .inl (by omega)
  · rcases h with h | ⟨c, hc, h2⟩
    · omega
    · refine .inr ⟨c, ?_, h2⟩
      rw [List.getElem?_append_right (by omega)] at hc
      rw [← hc]; congr 1; omega
theorem Marked.left {A B : Flow} {q : Nat} (h : Marked (A ++ B) q) (hq : q ≤ A.length) : Marked A q := by
  rcases h with h | ⟨c, hc, h2⟩
  · exact .inl h
  · by_cases h0 : q = 0
    · exact .inl h0
    · exact .inr ⟨c, by rw [List.getElem?_append_left (by omega)] at hc; exact hc, h2⟩
theorem dblF_cons (a : UInt8) (t : List UInt8) : dblF (a :: t) = (if a = 255 then [(255, false), (255, true)] else [(a, true)]) ++ dblF t := by unfold dblF; rw [List.flatMap_cons]
theorem dbl_cut : ∀ (s : List UInt8) (q : Nat), q ≤ (dblF s).length → Marked (dblF s) q → ∃ j, (dblF s).take q = dblF (s.take j)
  | [], q, _, _ => ⟨0, by simp [dblF]⟩
  | a :: t, q, hq, hm => by
    by_cases h0 : q = 0
    · subst h0; exact ⟨0, by simp [dblF]⟩
    · rw [dblF_cons] at hq hm ⊢
      by_cases ha : a = 255
      · subst ha
        rw [if_pos rfl] at hq hm ⊢
        by_cases h1 : q = 1
        · subst h1
          rcases hm with hm | ⟨c, hc, h2⟩
          · omega
          · simp at hc; subst hc; cases h2
        · obtain ⟨j, hj⟩ := dbl_cut t (q - 2) (by simp at hq; omega) (hm.right (by simp; omega) (by simp))
          refine ⟨j + 1, ?_⟩
          rw [List.take_succ_cons, dblF_cons, if_pos rfl, ← hj]
          obtain ⟨r, rfl⟩ : ∃ r, q = r + 2 := ⟨q - 2, by omega⟩
          rfl
      · rw [if_neg ha] at hq hm ⊢
        obtain ⟨j, hj⟩ := dbl_cut t (q - 1) (by simp at hq; omega) (hm.right (by simp; omega) (by simp))
        refine ⟨j + 1, ?_⟩
        rw [List.take_succ_cons, dblF_cons, if_neg ha, ← hj]
        obtain ⟨r, rfl⟩ : ∃ r, q = r + 1 := ⟨q - 1, by omega⟩
        rfl
theorem told_pos (s : List UInt8) : 4 ≤ (markP (toldP s)).length := by rw [markP_len, toldP_len]; omega
theorem cutI : ∀ (l : List It) (q : Nat), q ≤ (flI l).length → Marked (flI l) q → ∃ l' : List It, flI l' = (flI l).take q ∧ (∃ t, consI l' ++ t = consI l) ∧ (∃ t, repsI l' ++ t = repsI l)
  | [], q, _, _ => ⟨[], by simp [flI], ⟨[], rfl⟩, ⟨[], rfl⟩⟩
  | it :: r, q, hq, hm => by
    have e0 : flI (it :: r) = it.fl ++ flI r := by unfold flI; rw [List.flatMap_cons]
    rw [e0] at hq hm ⊢
    by_cases hle : q ≤ it.fl.length
    · have hm1 := hm.left hle
      rw [List.take_append_of_le_length hle]
      cases it with
      | con s =>
        obtain ⟨j, hj⟩ := dbl_cut s q hle hm1
        refine ⟨[.con (s.take j)], ?_, ⟨s.drop j ++ consI r, ?_⟩, ⟨repsI r, rfl⟩⟩
        · show _ = (dblF s).take q
          rw [hj]; simp [flI, It.fl]
        · simp only [consI, List.flatMap_cons, List.flatMap_nil, List.append_nil]
          rw [← List.append_assoc, List.take_append_drop]
      | rep s =>
        by_cases h0 : q = 0
        · subst h0
          exact ⟨[], by simp [flI], ⟨_, rfl⟩, ⟨_, rfl⟩⟩
        · rcases hm1 with hm1 | ⟨c, hc, h2⟩
          · omega
          · have h3 := (markP_get _ _ c hc).1 h2
            have h4 : q = (markP (toldP s)).length := by rw [markP_len]; omega
            refine ⟨[.rep s], ?_, ⟨consI r, rfl⟩, ⟨repsI r, rfl⟩⟩
            show _ = (markP (toldP s)).take q
            rw [h4, List.take_of_length_le (Nat.le_refl _)]; simp [flI, It.fl]
    · have hrest : Marked (flI r) (q - it.fl.length) := by
        by_cases h1 : it.fl.length = 0
        · have h2 : it.fl = [] := List.eq_nil_of_length_eq_zero h1
          rw [h2] at hm ⊢
          simpa using hm
        · exact hm.right (by omega) (by omega)
      obtain ⟨l', h1, ⟨t1, h2⟩, ⟨t2, h3⟩⟩ := cutI r (q - it.fl.length) (by rw [List.length_append] at hq; omega) hrest
      refine ⟨it :: l', ?_, ⟨t1, ?_⟩, ⟨t2, ?_⟩⟩
      · rw [List.take_append, List.take_of_length_le (by omega), ← h1]; unfold flI; rw [List.flatMap_cons]
      · show consI ([it] ++ l') ++ t1 = consI ([it] ++ r)
        rw [consI_app, consI_app, List.append_assoc, h2]
      · show repsI ([it] ++ l') ++ t2 = repsI ([it] ++ r)
        rw [repsI_app, repsI_app, List.append_assoc, h3]

theorem dbl_dense : ∀ (s : List UInt8) (k : Nat), k < (dblF s).length → ∃ j c, j < 2 ∧ (dblF s)[k + j]? = some c ∧ c.2 = true
  | [], k, h => by simp [dblF] at h
  | a :: t, k, h => by
    rw [dblF_cons] at h ⊢
    by_cases ha : a = 255
    · subst ha
      rw [if_pos rfl] at h ⊢
      match k with
      | 0 => exact ⟨1, _, by omega, rfl, rfl⟩
      | 1 => exact ⟨0, _, by omega, rfl, rfl⟩
      | k + 2 =>
        obtain ⟨j, c, h1, h2, h3⟩ := dbl_dense t k (by simp at h; omega)
        refine ⟨j, c, h1, ?_, h3⟩
        rw [← h2]
        show (_ :: _ :: dblF t)[k + 2 + j]? = _
        rw [show k + 2 + j = (k + j) + 1 + 1 by omega, List.getElem?_cons_succ, List.getElem?_cons_succ]
    · rw [if_neg ha] at h ⊢
      match k with
      | 0 => exact ⟨0, _, by omega, rfl, rfl⟩
      | k + 1 =>
        obtain ⟨j, c, h1, h2, h3⟩ := dbl_dense t k (by simp at h; omega)
        refine ⟨j, c, h1, ?_, h3⟩
        rw [← h2]
        show (_ :: dblF t)[k + 1 + j]? = _
        rw [show k + 1 + j = (k + j) + 1 by omega, List.getElem?_cons_succ]
theorem dense : ∀ (l : List It), (∀ s, It.rep s ∈ l → s.length ≤ 100) → ∀ k, k < (flI l).length → ∃ j c, j < 204 ∧ (flI l)[k + j]? = some c ∧ c.2 = true
  | [], _, k, h => by simp [flI] at h
  | it :: r, hr, k, h => by
    have e0 : flI (it :: r) = it.fl ++ flI r := by unfold flI; rw [List.flatMap_cons]
    rw [e0] at h ⊢
    by_cases hk : k < it.fl.length
    · cases it with
      | con s =>
        obtain ⟨j, c, h1, h2, h3⟩ := dbl_dense s k hk
        have := (List.getElem?_eq_some_iff.1 h2).1
        exact ⟨j, c, by omega, by show (dblF s ++ flI r)[k + j]? = some c; rw [List.getElem?_append_left this]; exact h2, h3⟩
      | rep s =>
        have hs := hr s List.mem_cons_self
        have hlen : (toldP s).length ≤ 204 := by rw [toldP_len]; have := dblP_len s; omega
        have hk2 : k < (markP (toldP s)).length := hk
        rw [markP_len] at hk2
        obtain ⟨c, hc⟩ : ∃ c, (markP (toldP s))[(toldP s).length - 1]? = some c := ⟨_, List.getElem?_eq_getElem (by rw [markP_len]; omega)⟩
        refine ⟨(toldP s).length - 1 - k, c, by omega, ?_, (markP_get _ _ c hc).2 (by omega)⟩
        rw [List.getElem?_append_left (by show _ < (markP (toldP s)).length; rw [markP_len]; omega), show k + ((toldP s).length - 1 - k) = (toldP s).length - 1 by omega]
        exact hc
    · obtain ⟨j, c, h1, h2, h3⟩ := dense r (fun s hs => hr s (List.mem_cons_of_mem _ hs)) (k - it.fl.length) (by rw [List.length_append] at h; omega)
      refine ⟨j, c, h1, ?_, h3⟩
      rw [List.getElem?_append_right (by omega), ← h2]; congr 1; omega
/-- what is begun is no more than one reply -/
theorem bg_short {l : List It} (hr : ∀ s, It.rep s ∈ l → s.length ≤ 100) {k : Nat} {bg : List UInt8} {rest : Flow} (hf : (flI l).drop k = markP bg ++ rest) : bg.length ≤ 204 := by
  by_cases hb : bg = []
  · subst hb; simp
  · have hbp : 0 < bg.length := List.length_pos_iff.2 hb
    have hlen : (flI l).length - k = bg.length + rest.length := by rw [← List.length_drop, hf, List.length_append, markP_len]
    obtain ⟨j, c, h1, h2, h3⟩ := dense l hr k (by omega)
    rw [← List.getElem?_drop, hf] at h2
    by_cases hj : j < bg.length
    · rw [List.getElem?_append_left (by rw [markP_len]; exact hj)] at h2
      have := (markP_get _ _ c h2).1 h3
      omega
    · omega
/-- behind what is begun a byte, or a reply, ends -/
theorem bg_marked {AF rest : Flow} {bg : List UInt8} {k : Nat} (hs : SentP AF [] k bg) (hf : AF.drop k = markP bg ++ rest) : Marked AF (k + bg.length) ∧ k + bg.length ≤ AF.length ∧ (AF.take (k + bg.length)).map Prod.fst = (AF.take k).map Prod.fst ++ bg := by
  have hlen : AF.length - k = bg.length + rest.length := by rw [← List.length_drop, hf, List.length_append, markP_len]
  have hle := hs.le
  refine ⟨?_, by omega, ?_⟩
  · by_cases hb : bg = []
    · subst hb
      by_cases h0 : k = 0
      · exact .inl (by rw [h0]; rfl)
      · obtain ⟨c, hc⟩ : ∃ c, AF[k - 1]? = some c := ⟨_, List.getElem?_eq_getElem (by omega)⟩
        exact .inr ⟨c, by simpa using hc, (hs.mark c (by omega) hc).1 rfl⟩
    · have hbp : 0 < bg.length := List.length_pos_iff.2 hb
      obtain ⟨c, hc⟩ : ∃ c, (markP bg)[bg.length - 1]? = some c := ⟨_, List.getElem?_eq_getElem (by rw [markP_len]; omega)⟩
      refine .inr ⟨c, ?_, (markP_get _ _ c hc).2 (by omega)⟩
      rw [show k + bg.length - 1 = k + (bg.length - 1) by omega, ← List.getElem?_drop, hf, List.getElem?_append_left (by rw [markP_len]; omega)]
      exact hc
  · rw [List.take_add, hf, List.map_append]
    congr 1
    rw [← markP_len bg, List.take_left, markP_fst]

/-- the items, each reply with the bytes ahead of it -/
def gOf : List UInt8 → List It → List (List UInt8 × List UInt8) × List UInt8
  | acc, [] => ([], acc)
  | acc, .con s :: r => gOf (acc ++ s) r
  | acc, .rep u :: r => ((acc, u) :: (gOf [] r).1, (gOf [] r).2)
theorem gOf_bytes : ∀ (l : List It) (acc : List UInt8), dblP acc ++ (flI l).map Prod.fst = gB (gOf acc l).1 (gOf acc l).2
  | [], acc => by simp [flI, gOf, gB]
  | .con s :: r, acc => by
    have e0 : flI (.con s :: r) = dblF s ++ flI r := by unfold flI; rw [List.flatMap_cons]; rfl
    rw [e0, List.map_append, dblF_fst, ← List.append_assoc, ← dblP_app, gOf_bytes r (acc ++ s), gOf]
  | .rep u :: r, acc => by
    have e0 : flI (.rep u :: r) = markP (toldP u) ++ flI r := by unfold flI; rw [List.flatMap_cons]; rfl
    have := gOf_bytes r []
    rw [e0, List.map_append, markP_fst, gOf, gB_cons, ← this]
    simp [dblP, toldP]
theorem gOf_last : ∀ (l : List It) (acc last : List UInt8), gOf acc (l ++ [.rep last]) = ((gOf acc l).1 ++ [((gOf acc l).2, last)], [])
  | [], acc, last => rfl
  | .con s :: r, acc, last => by rw [List.cons_append, gOf, gOf, gOf_last r]
  | .rep u :: r, acc, last => by rw [List.cons_append, gOf, gOf, gOf_last r]; rfl
def consP (P : List (List UInt8 × Bool)) : List UInt8 := P.flatMap fun x => if x.2 then [] else x.1
def repP (P : List (List UInt8 × Bool)) : List (List UInt8) := P.filterMap fun x => if x.2 then some x.1 else none
theorem consP_app (a b : List (List UInt8 × Bool)) : consP (a ++ b) = consP a ++ consP b := by unfold consP; rw [List.flatMap_append]
theorem repP_app (a b : List (List UInt8 × Bool)) : repP (a ++ b) = repP a ++ repP b := by unfold repP; rw [List.filterMap_append]
theorem consP_take (P : List (List UInt8 × Bool)) (m : Nat) : consP (P.take m) ++ consP (P.drop m) = consP P := by rw [← consP_app, List.take_append_drop]
theorem repP_take (P : List (List UInt8 × Bool)) (m : Nat) : repP (P.take m) ++ repP (P.drop m) = repP P := by rw [← repP_app, List.take_append_drop]
theorem take_one {P : List (List UInt8 × Bool)} {m : Nat} {x : List UInt8 × Bool} (h : P[m]? = some x) : P.take (m + 1) = P.take m ++ [x] := by rw [List.take_add_one, h]; rfl
theorem drop_one {P : List (List UInt8 × Bool)} {m : Nat} {x : List UInt8 × Bool} (h : P[m]? = some x) : P.drop m = x :: P.drop (m + 1) := by
  obtain ⟨h1, h2⟩ := List.getElem?_eq_some_iff.1 h
  rw [List.drop_eq_getElem_cons h1, h2]
theorem consP_con (c : List UInt8) : consP (conP c) = c ∧ repP (conP c) = [] := by
  unfold conP
  by_cases h : c = []
  · subst h; exact ⟨rfl, rfl⟩
  · rw [if_neg h]; simp [consP, repP]
theorem gOf_parts : ∀ (l : List It) (acc : List UInt8), consP (outG (gOf acc l).1 ++ conP (gOf acc l).2) = acc ++ consI l ∧ repP (outG (gOf acc l).1 ++ conP (gOf acc l).2) = repsI l
  | [], acc => by
    have := consP_con acc
    simp [gOf, outG, consI, repsI, this]
  | .con s :: r, acc => by
    have := gOf_parts r (acc ++ s)
    rw [gOf]
    refine ⟨by rw [this.1, List.append_assoc]; rfl, this.2⟩
  | .rep u :: r, acc => by
    have h1 := gOf_parts r []
    have h2 := consP_con acc
    have e1 : outG (gOf acc (.rep u :: r)).1 ++ conP (gOf acc (.rep u :: r)).2 = conP acc ++ ([(u, true)] ++ (outG (gOf [] r).1 ++ conP (gOf [] r).2)) := by
      rw [gOf]; unfold outG; rw [List.flatMap_cons]; simp
    rw [e1, consP_app, consP_app, repP_app, repP_app, h1.1, h1.2, h2.1, h2.2]
    exact ⟨rfl, rfl⟩
end Go.Proofs.Ytcblaeleaebinaa
