/-
  DeskCuts: what a desk, a past, what was sent and what was told are while the acts go on. Plain.
-/
import Derived.Test.YtcblaeleaebinaaOps32
import Derived.Test.YtcblaeleaebinaaItems
namespace Go.Proofs.Ytcblaeleaebinaa
open Go.RowKit

structure Cuts (w0 wr : World) (p g b d : Nat) (F : Nat → Prop) (all snt : ByteArray) (its : List It) (k : Nat) (bg : List UInt8) (tv : Value) (told : List ByteArray) : Prop where
  bench : BenchF w0 wr p g b 8000 d F all.data.toList 1048576 bg ((flI its).drop k)
  sent : SentP (flI its) [] k bg
  snt_ : snt.data.toList = ((flI its).take k).map Prod.fst
  cons : consI its = all.data.toList
  reps : repsI its = told.map fun s => s.data.toList
  row : OwnQ wr 9 tv (told.map Value.string)
  rowF : ∀ r, rowB tv = some r → ¬ F r ∧ r ≠ p ∧ r ≠ g ∧ r ≠ b ∧ w0.heap.size ≤ r
  short : ∀ s, It.rep s ∈ its → s.length ≤ 100

section
variable {w0 wr wo w' : World} {p g b d : Nat} {F : Nat → Prop} {all snt : ByteArray} {its : List It} {k : Nat} {bg : List UInt8} {tv : Value} {told : List ByteArray}
theorem Cuts.rowk (h : Cuts w0 wo p g b d F all snt its k bg tv told) (K : Keeps (fun i => F i ∨ i = p ∨ i = g ∨ i = b) wo w') : OwnQ w' 9 tv (told.map Value.string) :=
  h.row.keeps K fun r hr _ e => by
    obtain ⟨h1, h2, h3, h4, _⟩ := h.rowF r hr
    rcases e with e | e | e | e
    · exact h1 e
    · exact h2 e
    · exact h3 e
    · exact h4 e
theorem Cuts.rowlt (h : Cuts w0 wo p g b d F all snt its k bg tv told) : ∀ r, rowB tv = some r → r < wo.heap.size := fun r hr => by
  obtain ⟨cs, hb⟩ := h.row.row r hr
  exact hb.lt
theorem Cuts.same (h : Cuts w0 wr p g b d F all snt its k bg tv told) (kk : Keeps (fun _ => False) wr w') : Cuts w0 w' p g b d F all snt its k bg tv told :=
  { h with bench := h.bench.same kk, row := h.row.keeps kk (fun _ _ _ => id) }
theorem Cuts.below (h : Cuts w0 wr p g b d F all snt its k bg tv told) : Cuts w0 wr p g b d (fun i => F i ∧ i < wr.heap.size) all snt its k bg tv told :=
  { h with bench := h.bench.below, rowF := fun r hr => by obtain ⟨h1, h2⟩ := h.rowF r hr; exact ⟨fun e => h1 e.1, h2⟩ }

/-- the console tells -/
theorem Cuts.shown (h : Cuts w0 wo p g b d F all snt its k bg tv told) {F' : Nat → Prop} {all2 : ByteArray} (s : ByteArray) (K : Keeps (fun i => F i ∨ i = p ∨ i = g ∨ i = b) wo w') (hF : ∀ i, F' i → F i ∨ wo.heap.size ≤ i)
    (h2 : all2.data.toList = all.data.toList ++ s.data.toList) (hB : BenchF w0 w' p g b 8000 d F' all2.data.toList 1048576 bg ((flI its).drop k ++ dblF s.data.toList)) :
    Cuts w0 w' p g b d F' all2 snt (its ++ [.con s.data.toList]) k bg tv told := by
  have hk := h.sent.le
  have e0 : flI (its ++ [.con s.data.toList]) = flI its ++ dblF s.data.toList := by rw [flI_app]; simp [flI, It.fl]
  exact {
    bench := by rw [e0, List.drop_append_of_le_length hk]; exact hB
    sent := by rw [e0]; exact h.sent.more _
    snt_ := by rw [e0, List.take_append_of_le_length hk]; exact h.snt_
    cons := by rw [consI_app, h.cons, h2]; simp [consI]
    reps := by rw [repsI_app, h.reps]; simp [repsI]
    row := h.rowk K
    rowF := fun r hr => by
      obtain ⟨t1, t2⟩ := h.rowF r hr
      have := h.rowlt r hr
      exact ⟨fun e => (hF r e).elim t1 (by omega), t2⟩
    short := fun t ht => by
      rcases List.mem_append.1 ht with ht | ht
      · exact h.short t ht
      · rw [List.mem_singleton] at ht; cases ht }
/-- a reply; w3: behind the desk's step; w': behind the append -/
theorem Cuts.told_ (h : Cuts w0 wo p g b d F all snt its k bg tv told) {w3 w4 : World} {tv' : Value} (s : ByteArray) (hs : s.size ≤ 100) (K4 : Keeps (fun _ => False) w3 w4)
    (hB : BenchF w0 w3 p g b 8000 d (fun i => F i ∨ wo.heap.size ≤ i) all.data.toList 1048576 bg ((flI its).drop k ++ markP (toldP s.data.toList)))
    (K5 : Keeps (fun i => rowB tv = some i) w4 w') (ho : OwnQ w' 9 tv' (told.map Value.string ++ [.string s])) (hr : rowB tv' = rowB tv ∨ rowB tv' = some w4.heap.size) :
    Cuts w0 w' p g b d (fun i => (F i ∨ wo.heap.size ≤ i) ∧ i < w3.heap.size) all snt (its ++ [.rep s.data.toList]) k bg tv' (told ++ [s]) := by
  have hk := h.sent.le
  have hsl : s.data.toList.length = s.size := by simp
  have e0 : flI (its ++ [.rep s.data.toList]) = flI its ++ markP (toldP s.data.toList) := by rw [flI_app]; simp [flI, It.fl]
  have hpl := hB.past.lt
  have hs4 := K4.size
  have hw0 := hB.kk.size
  exact {
    bench := by
      rw [e0, List.drop_append_of_le_length hk]
      refine (hB.below.same K4).keeps K5 (fun i hi e => ?_) (fun i hi e => ?_) ⟨fun e => ?_, fun e => ?_, fun e => ?_⟩
      · have := (h.rowF i e).2.2.2.2; omega
      · have := h.rowlt i e
        exact hi.1.elim (h.rowF i e).1 (by omega)
      · exact (h.rowF _ e).2.1 rfl
      · exact (h.rowF _ e).2.2.1 rfl
      · exact (h.rowF _ e).2.2.2.1 rfl
    sent := by rw [e0]; exact h.sent.more _
    snt_ := by rw [e0, List.take_append_of_le_length hk]; exact h.snt_
    cons := by rw [consI_app, h.cons]; simp [consI]
    reps := by rw [repsI_app, h.reps, List.map_append]; simp [repsI]
    row := by rw [List.map_append]; exact ho
    rowF := fun r hr2 => by
      rcases hr with hr | hr
      · rw [hr] at hr2
        obtain ⟨t1, t2⟩ := h.rowF r hr2
        have := h.rowlt r hr2
        exact ⟨fun e => e.1.elim t1 (by omega), t2⟩
      · rw [hr] at hr2
        injection hr2 with hr2
        subst hr2
        refine ⟨fun e => ?_, by omega, by omega, by omega, by omega⟩
        have := e.2
        omega
    short := fun t ht => by
      rcases List.mem_append.1 ht with ht | ht
      · exact h.short t ht
      · rw [List.mem_singleton] at ht; injection ht with ht; rw [ht]; omega }
/-- some is sent -/
theorem Cuts.emitted (h : Cuts w0 wo p g b d F all snt its k bg tv told) {snt2 x : ByteArray} {bg' : List UInt8} (n : Nat) (K : Keeps F wo w') (h2 : snt ++ x = snt2) (hx : x = str ((((flI its).drop k).take n).map Prod.fst))
    (hB : BenchF w0 w' p g b 8000 d F all.data.toList 1048576 bg' (((flI its).drop k).drop n)) (hs : SentP ((flI its).drop k) bg (min n ((flI its).drop k).length) bg') :
    Cuts w0 w' p g b d F all snt2 its (k + min n ((flI its).drop k).length) bg' tv told := by
  have e2 : (flI its).drop (k + min n ((flI its).drop k).length) = ((flI its).drop k).drop n := by
    rw [← List.drop_drop]
    rcases Nat.le_total n ((flI its).drop k).length with h | h
    · rw [Nat.min_eq_left h]
    · rw [Nat.min_eq_right h, List.drop_eq_nil_of_le h, List.drop_eq_nil_of_le (Nat.le_refl _)]
  exact { h with
    bench := by rw [e2]; exact hB
    sent := h.sent.sent rfl hs
    snt_ := by
      rw [← h2, hx, str_app, h.snt_, List.take_add, List.map_append]
      congr 2
      rcases Nat.le_total n ((flI its).drop k).length with h | h
      · rw [Nat.min_eq_left h]
      · rw [Nat.min_eq_right h, List.take_of_length_le h, List.take_of_length_le (Nat.le_refl _)]
    row := h.rowk (K.mono fun i _ e => .inl e) }
end

/-- what the parts are, all of it sent -/
structure Parts32 (tot : List UInt8) (all : List UInt8) (told : List (List UInt8)) (last : List UInt8) (G : List (List UInt8 × List UInt8)) (P0 : List (List UInt8 × Bool)) : Prop where
  bytes : tot = gB G []
  parts : outG G ++ conP [] = P0 ++ [(last, true)]
  cons : ∃ t, consP P0 ++ t = all
  reps : ∃ t, repP P0 ++ t = told
theorem Cuts.parts {w0 wr : World} {p g b d : Nat} {F : Nat → Prop} {all snt : ByteArray} {its : List It} {k : Nat} {bg : List UInt8} {tv : Value} {told : List ByteArray} {rest : Flow}
    (h : Cuts w0 wr p g b d F all snt its k bg tv told) (hf : (flI its).drop k = markP bg ++ rest) (last : List UInt8) :
    ∃ G P0, Parts32 (snt.data.toList ++ (markP bg ++ markP (toldP last)).map Prod.fst) all.data.toList (told.map fun s => s.data.toList) last G P0 := by
  obtain ⟨hm, hle, htk⟩ := bg_marked h.sent hf
  obtain ⟨its2, h1, ⟨t1, h2⟩, ⟨t2, h3⟩⟩ := cutI its _ hle hm
  have hg := gOf_bytes (its2 ++ [.rep last]) []
  rw [gOf_last] at hg
  have hp := gOf_parts its2 []
  refine ⟨(gOf [] its2).1 ++ [((gOf [] its2).2, last)], outG (gOf [] its2).1 ++ conP (gOf [] its2).2, {
    bytes := ?_
    parts := ?_
    cons := ⟨t1, by rw [hp.1, List.nil_append, h2, h.cons]⟩
    reps := ⟨t2, by rw [hp.2, h3, h.reps]⟩ }⟩
  · rw [← hg, h.snt_, List.map_append, markP_fst, markP_fst, ← List.append_assoc, ← htk, ← h1, flI_app, List.map_append]
    have e0 : flI [.rep last] = markP (toldP last) := by simp [flI, It.fl]
    rw [e0, markP_fst]; rfl
  · rw [outG_snoc]; simp [conP]

/-- what the second loop needs at index j -/
theorem Parts32.at {tot all last : List UInt8} {told : List (List UInt8)} {G : List (List UInt8 × List UInt8)} {P0 P : List (List UInt8 × Bool)} (h : Parts32 tot all told last G P0) (hP : P = P0 ++ [(last, true)]) {j : Nat} {x : List UInt8 × Bool} (hx : P[j]? = some x) :
    (consP (P.take j)).length ≤ all.length ∧ (consP (P.take (j + 1))).length ≤ all.length ∧ all.take (consP (P.take j)).length = consP (P.take j) ∧ (repP (P.take j)).length ≤ told.length ∧
    (x.2 = false → j + 1 < P.length ∧ consP (P.take (j + 1)) = consP (P.take j) ++ x.1 ∧ repP (P.take (j + 1)) = repP (P.take j)) ∧
    (x.2 = true → (j + 1 = P.length ∧ x.1 = last ∨ j + 1 < P.length ∧ told[(repP (P.take j)).length]? = some x.1 ∧ consP (P.take (j + 1)) = consP (P.take j) ∧ (repP (P.take (j + 1))).length = (repP (P.take j)).length + 1)) := by
  obtain ⟨t1, h1⟩ := h.cons
  obtain ⟨t2, h2⟩ := h.reps
  have hjl := (List.getElem?_eq_some_iff.1 hx).1
  have hPl : P.length = P0.length + 1 := by rw [hP]; simp
  have hcP : consP P = consP P0 := by rw [hP, consP_app]; simp [consP]
  have hall : ∀ m, consP (P.take m) ++ (consP (P.drop m) ++ t1) = all := fun m => by rw [← List.append_assoc, consP_take, hcP, h1]
  have hlen : ∀ m, (consP (P.take m)).length ≤ all.length := fun m => by rw [← hall m, List.length_append]; omega
  have hstep := take_one hx
  have hc1 : consP (P.take (j + 1)) = consP (P.take j) ++ consP [x] := by rw [hstep, consP_app]
  have hr1 : repP (P.take (j + 1)) = repP (P.take j) ++ repP [x] := by rw [hstep, repP_app]
  -- the replies ahead of the last part
  have htk : P.take j = P0.take j := by rw [hP, List.take_append_of_le_length (by omega)]
  have hrl : (repP (P.take j)).length ≤ told.length := by
    rw [htk, ← h2, ← repP_take P0 j, List.length_append, List.length_append]; omega
  refine ⟨hlen j, hlen (j + 1), ?_, hrl, fun hf => ?_, fun ht => ?_⟩
  · rw [← hall j, List.take_left]
  · have e1 : consP [x] = x.1 := by simp [consP, hf]
    have e2 : repP [x] = [] := by simp [repP, hf]
    refine ⟨?_, by rw [hc1, e1], by rw [hr1, e2, List.append_nil]⟩
    rcases Nat.lt_or_ge (j + 1) P.length with h3 | h3
    · exact h3
    · exfalso
      have hj : j = P0.length := by omega
      rw [hP, hj, List.getElem?_append_right (Nat.le_refl _)] at hx
      simp at hx
      rw [← hx] at hf; cases hf
  · have e1 : consP [x] = [] := by simp [consP, ht]
    have e2 : repP [x] = [x.1] := by simp [repP, ht]
    by_cases hj : j + 1 = P.length
    · left
      refine ⟨hj, ?_⟩
      have hj2 : j = P0.length := by omega
      rw [hP, hj2, List.getElem?_append_right (Nat.le_refl _)] at hx
      simp at hx
      rw [← hx]
    · right
      refine ⟨by omega, ?_, by rw [hc1, e1, List.append_nil], by rw [hr1, e2]; simp⟩
      have hx0 : P0[j]? = some x := by rw [hP, List.getElem?_append_left (by omega)] at hx; exact hx
      rw [htk, ← h2, ← repP_take P0 j, List.append_assoc, List.getElem?_append_right (Nat.le_refl _), Nat.sub_self, drop_one hx0]
      show ((repP ([x] ++ P0.drop (j + 1))) ++ t2)[0]? = _
      rw [repP_app, e2]; rfl
end Go.Proofs.Ytcblaeleaebinaa
