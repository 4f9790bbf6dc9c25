/-
  What is loaded, printed, is loaded as the same. No program in sight.
-/
import Derived.Test.YtfpajgmdejlaeaaGreatDoorQConfY
namespace Go.Proofs.YtfpajgmdejlaeaaGreatDoor
open Go.RowKit

/-! what may be can be printed -/
theorem arg_word {a : ByteArray} (h : wordyP a.data.toList = true) : (argPr a.data.toList).2 = true := by unfold argPr; rw [if_pos h]
theorem arg_seen {a : ByteArray} (h : a.data.toList.all seenB = true) : (argPr a.data.toList).2 = true := by
  unfold argPr
  split
  · rfl
  · unfold putP_lexm
    rw [if_neg (by decide), if_pos rfl, if_pos h]
    rfl
theorem inner_plain {c : UInt8} (h : innerB c = true) : plainB c = true := by
  unfold innerB letterB at h
  unfold plainB plainN
  simp only [Bool.or_eq_true, Bool.and_eq_true, decide_eq_true_eq] at h
  simp only [Bool.and_eq_true, decide_eq_true_eq, Bool.not_eq_true', decide_eq_false_iff_not]
  omega
theorem letter_inner {c : UInt8} (h : letterB c = true) : innerB c = true := by unfold innerB; rw [h]; rfl
theorem pat_plain {c : UInt8} (h : patB c = true) : plainB c = true := by
  unfold patB at h
  simp only [Bool.or_eq_true, decide_eq_true_eq] at h
  rcases h with (h | h) | h
  · exact inner_plain h
  · unfold plainB plainN; simp; omega
  · unfold plainB plainN; simp; omega
theorem is_wordy {s : ByteArray} (h : isB s = true) : wordyP s.data.toList = true ∧ 1 ≤ s.size := by
  unfold isB at h
  have hl : s.data.toList.length = s.size := by simp
  cases hs : s.data.toList with
  | nil => rw [hs] at h; cases h
  | cons c t =>
    rw [hs] at h hl
    simp only [Bool.and_eq_true] at h
    unfold wordyP
    rw [Bool.and_eq_true]
    refine ⟨⟨by simp, List.all_eq_true.2 fun x hx => inner_plain (List.all_eq_true.1 h.2 x hx)⟩, ?_⟩
    rw [List.length_cons] at hl
    omega
theorem fits_wordy {s : ByteArray} (h : fitsB s = true) : wordyP s.data.toList = true := by
  unfold fitsB at h
  have hl : s.data.toList.length = s.size := by simp
  simp only [Bool.and_eq_true, decide_eq_true_eq] at h
  unfold wordyP
  rw [Bool.and_eq_true, decide_eq_true_eq]
  exact ⟨fun e => by rw [e, List.length_nil] at hl; omega, List.all_eq_true.2 fun x hx => pat_plain (List.all_eq_true.1 h.2 x hx)⟩
theorem secret_wordy {s : ByteArray} (h : secretB s = true) : wordyP s.data.toList = true := by
  unfold secretB at h
  simp only [Bool.and_eq_true] at h
  exact h.2
theorem dig_wordy {n : Int} (h : 0 ≤ n) : wordyP (digS n).data.toList = true := by
  unfold digS
  rw [str_list, dec_pos h]
  unfold wordyP
  rw [Bool.and_eq_true, decide_eq_true_eq]
  refine ⟨fun e => by have := decN_pos n.toNat; rw [e] at this; simp at this, List.all_eq_true.2 fun c hc => ?_⟩
  have := decN_dig n.toNat c hc
  unfold plainB plainN
  simp
  omega
theorem hexN_seen {c : UInt8} {n : Nat} (h : hexN c = some n) : seenB c = true := by
  unfold hexN at h
  unfold seenB
  rw [decide_eq_true_eq]
  split at h
  · omega
  · split at h
    · omega
    · cases h
theorem digN_seen {c : UInt8} {n : Nat} (h : digN c = some n) : seenB c = true := by
  unfold digN at h
  unfold seenB
  rw [decide_eq_true_eq]
  split at h
  · omega
  · cases h
theorem two_seen {b : Nat} {f : UInt8 → Option Nat} (hf : ∀ c n, f c = some n → seenB c = true) {l : List UInt8} {p : Nat × List UInt8} (h : two b f l = some p) : ∃ x y r, l = x :: y :: r ∧ seenB x = true ∧ seenB y = true := by
  match l, h with
  | [], h => simp [two] at h
  | [_], h => simp [two] at h
  | x :: y :: r, h =>
    rw [two] at h
    refine ⟨x, y, r, rfl, ?_, ?_⟩
    · cases hx : f x with
      | none => rw [hx] at h; simp at h
      | some a => exact hf x a hx
    · cases hy : f y with
      | none => rw [hy] at h; cases hx : f x <;> rw [hx] at h <;> simp at h
      | some a => exact hf y a hy
theorem seen_of {c : UInt8} {n : Nat} (h : c.toNat = n) (h1 : 32 ≤ n ∧ n ≤ 126) : seenB c = true := by unfold seenB; rw [decide_eq_true_eq]; omega
theorem step_seen {l : List UInt8} {x : Stp} {n : Nat} (h : stepP l = some (x, n)) : 1 ≤ n ∧ (l.take n).all seenB = true := by
  cases l with
  | nil => cases h
  | cons c t =>
    rw [stepP] at h
    split at h
    · rename_i hc
      have sc := seen_of hc ⟨by omega, by omega⟩
      cases t with
      | nil => cases h
      | cons d u =>
        rw [escP] at h
        have two_ : ∀ m, d.toNat = m → 32 ≤ m ∧ m ≤ 126 → ((c :: d :: u).take 2).all seenB = true := fun m hm hb => by
          show (seenB c && (seenB d && true)) = true
          rw [sc, seen_of hm hb]; rfl
        split at h
        · injection h with h; injection h with _ h; subst h; exact ⟨by omega, two_ _ ‹_› (by omega)⟩
        split at h
        · injection h with h; injection h with _ h; subst h; exact ⟨by omega, two_ _ ‹_› (by omega)⟩
        split at h
        · injection h with h; injection h with _ h; subst h; exact ⟨by omega, two_ _ ‹_› (by omega)⟩
        split at h
        · injection h with h; injection h with _ h; subst h; exact ⟨by omega, two_ _ ‹_› (by omega)⟩
        split at h
        · injection h with h; injection h with _ h; subst h; exact ⟨by omega, two_ _ ‹_› (by omega)⟩
        split at h
        · injection h with h; injection h with _ h; subst h; exact ⟨by omega, two_ _ ‹_› (by omega)⟩
        split at h
        · rename_i hd
          cases hq : two 10 digN u with
          | none => rw [hq] at h; cases h
          | some p =>
            obtain ⟨q, r0⟩ := p
            obtain ⟨a, b, r, rfl, ha, hb⟩ := two_seen (fun c n => digN_seen) hq
            rw [hq] at h
            simp only at h
            split at h
            · injection h with h; injection h with _ h; subst h
              refine ⟨by omega, ?_⟩
              show (seenB c && (seenB d && (seenB a && (seenB b && true)))) = true
              rw [sc, seen_of hd (by omega), ha, hb]; rfl
            · cases h
        split at h
        · rename_i hd
          cases hq : two 16 hexN u with
          | none => rw [hq] at h; cases h
          | some p =>
            obtain ⟨q, r0⟩ := p
            obtain ⟨a, b, r, rfl, ha, hb⟩ := two_seen (fun c n => hexN_seen) hq
            rw [hq] at h
            simp only at h
            injection h with h; injection h with _ h; subst h
            refine ⟨by omega, ?_⟩
            show (seenB c && (seenB d && (seenB a && (seenB b && true)))) = true
            rw [sc, seen_of hd (by omega), ha, hb]; rfl
        · cases h
    · split at h
      · cases h
      · injection h with h; injection h with _ h; subst h
        refine ⟨by omega, ?_⟩
        show (seenB c && true) = true
        rw [Bool.and_true]
        unfold seenB
        rw [decide_eq_true_eq]; omega
theorem steps_seen : ∀ (f : Nat) (out r : List Stp) (l : List UInt8), l.length ≤ f → stepsP f out l = some r → l.all seenB = true
  | 0, out, r, l, hl, h => by obtain rfl := List.eq_nil_of_length_eq_zero (Nat.le_zero.1 hl); rfl
  | f + 1, out, r, l, hl, h => by
    rw [stepsP] at h
    split at h
    · rename_i he; rw [he]; rfl
    · rename_i hne
      cases hq : stepP l with
      | none => rw [hq] at h; cases h
      | some p =>
        obtain ⟨x, n⟩ := p
        rw [hq] at h
        obtain ⟨h1, h2⟩ := step_seen hq
        have h3 := steps_seen f _ r (l.drop n) (by rw [List.length_drop]; omega) h
        rw [← List.take_append_drop n l, List.all_append, h2, h3]; rfl
theorem brk_seen {s : ByteArray} (h : (brkP s.data.toList).1 = 0) : s.data.toList.all seenB = true := by
  unfold brkP at h
  split at h
  · simp at h
  · cases hq : stepsP s.data.toList.length [] s.data.toList with
    | none => rw [hq] at h; simp at h
    | some r => exact steps_seen _ _ r _ (Nat.le_refl _) hq
theorem ok_one {k : ByteArray} {as_ : List ByteArray} {d : Nat} (hk : wordyP k.data.toList = true) (hl : as_.length ≤ 16) (ha : ∀ a ∈ as_, (argPr a.data.toList).2 = true) : okN (oneN k as_) d := by
  unfold oneN
  rw [okN]
  refine ⟨?_, fun _ => rfl, fun h => by simp at h, by rw [okL]; trivial⟩
  unfold headPr
  simp only [Bool.and_eq_true, decide_eq_true_eq]
  exact ⟨⟨hk, hl⟩, List.all_eq_true.2 ha⟩
theorem okL_app : ∀ (xs ys : List Nd) (d : Nat), okL xs d → okL ys d → okL (xs ++ ys) d
  | [], ys, d, _, h => h
  | x :: xs, ys, d, h, h2 => by
    rw [okL] at h
    rw [List.cons_append, okL]
    exact ⟨h.1, okL_app xs ys d h.2 h2⟩
theorem okL_map {α : Type} {f : α → Nd} : ∀ (l : List α) (d : Nat), (∀ x ∈ l, okN (f x) d) → okL (l.map f) d
  | [], d, _ => by rw [List.map_nil, okL]; trivial
  | x :: l, d, h => by rw [List.map_cons, okL]; exact ⟨h x (by simp), okL_map l d fun y hy => h y (by simp [hy])⟩
theorem ok_told {x : Con} (hn : isB x.name = true) (h : SetG x) : okN (toldN x) 0 := by
  unfold toldN
  rw [okN]
  refine ⟨?_, fun h => by simp at h, fun _ => by omega, ?_⟩
  · unfold headPr
    simp only [Bool.and_eq_true, decide_eq_true_eq]
    exact ⟨⟨by kernel_rfl, by simp⟩, List.all_eq_true.2 fun a ha => by obtain rfl := List.mem_singleton.1 ha; exact arg_word (is_wordy hn).1⟩
  · have one1 : ∀ (k a : ByteArray), wordyP k.data.toList = true → (argPr a.data.toList).2 = true → okN (oneN k [a]) 1 := fun k a hk ha => ok_one hk (by simp) fun b hb => by obtain rfl := List.mem_singleton.1 hb; exact ha
    unfold subT
    rw [okL, okL, okL, okL, okL, okL, okL, okL]
    have hk : (argPr (kindW x.kind).data.toList).2 = true := by rcases h.kind with e | e <;> rw [e] <;> kernel_rfl
    refine ⟨one1 _ _ (by kernel_rfl) hk, one1 _ _ (by kernel_rfl) (arg_word (dig_wordy (by have := h.lines; omega))), one1 _ _ (by kernel_rfl) (arg_word (dig_wordy (by have := h.bytes; omega))), one1 _ _ (by kernel_rfl) (arg_word (dig_wordy (by have := h.gens; omega))), one1 _ _ (by kernel_rfl) (arg_word (dig_wordy (by have := h.size; omega))), ?_, one1 _ _ (by kernel_rfl) (arg_seen (brk_seen h.init)), trivial⟩
    refine ok_one (by kernel_rfl) (by simp) fun a ha => ?_
    simp only [List.mem_cons, List.not_mem_nil, or_false] at ha
    have h1 := h.base
    have h2 := h.cap
    have h3 := h.jitter
    rcases ha with rfl | rfl | rfl
    · exact arg_word (dig_wordy (by omega))
    · exact arg_word (dig_wordy (by omega))
    · exact arg_word (dig_wordy (by omega))
theorem ok_brks : ∀ (l : List ByteArray) (i : Int), 0 ≤ i → (∀ s ∈ l, s.size = 0 ∨ (brkP s.data.toList).1 = 0) → okL (brkNds i l) 0
  | [], i, _, _ => by rw [brkNds, okL]; trivial
  | s :: l, i, hi, h => by
    rw [brkNds]
    have ih := ok_brks l (i + 1) (by omega) fun x hx => h x (by simp [hx])
    split
    · exact ih
    · rename_i hs
      rw [okL]
      refine ⟨ok_one (by kernel_rfl) (by simp) fun a ha => ?_, ih⟩
      simp only [List.mem_cons, List.not_mem_nil, or_false] at ha
      rcases ha with rfl | rfl
      · exact arg_word (dig_wordy hi)
      · rcases h a (by simp) with e | e
        · exact absurd e hs
        · exact arg_seen (brk_seen e)
theorem ok_nodes {c : Cf} (h : CfG c) : okL (nodesC c) 0 := by
  unfold nodesC
  refine okL_app _ _ _ (okL_app _ _ _ (okL_app _ _ _ (okL_app _ _ _ (ok_brks _ _ (by omega) h.brks) (okL_map _ _ fun x hx => ok_told (h.cons x hx).1 (h.cons x hx).2)) (okL_map _ _ fun x hx => ?_)) (okL_map _ _ fun x hx => ?_)) (okL_map _ _ fun x hx => ?_)
  · obtain ⟨h1, h2, h3, h4⟩ := h.grps x hx
    refine ok_one (by kernel_rfl) (by rw [List.length_cons]; omega) fun a ha => ?_
    rcases List.mem_cons.1 ha with rfl | ha
    · exact arg_word (is_wordy h1).1
    · exact arg_word (fits_wordy (List.all_eq_true.1 h4 a ha))
  · obtain ⟨h1, h2⟩ := h.usrs x hx
    refine ok_one (by kernel_rfl) (by simp) fun a ha => ?_
    simp only [List.mem_cons, List.not_mem_nil, or_false] at ha
    rcases ha with rfl | rfl
    · exact arg_word (is_wordy h1).1
    · exact arg_word (secret_wordy h2)
  · obtain ⟨h1, h2, h3, h4⟩ := h.accs x hx
    refine ok_one (by kernel_rfl) (by simp) fun a ha => ?_
    simp only [List.mem_cons, List.not_mem_nil, or_false] at ha
    rcases ha with rfl | rfl | rfl
    · exact arg_word (fits_wordy h1)
    · exact arg_word (fits_wordy h2)
    · have : x.level = 0 ∨ x.level = 1 ∨ x.level = 2 ∨ x.level = 3 := by omega
      have hk : (argPr (levelW x.level).data.toList).2 = true := by rcases this with e | e | e | e <;> rw [e] <;> kernel_rfl
      exact hk

/-! how many pieces -/
def kl (xs : List Nd) : Nat := (ktL xs).length
theorem kl_app : ∀ (xs ys : List Nd), kl (xs ++ ys) = kl xs + kl ys
  | [], ys => by simp [kl, ktL]
  | x :: xs, ys => by
    have := kl_app xs ys
    unfold kl at this ⊢
    rw [List.cons_append, ktL, ktL, List.length_append, List.length_append, this]; omega
theorem kl_one (k : ByteArray) (as_ : List ByteArray) : kl [oneN k as_] = as_.length + 2 := by
  unfold kl oneN
  rw [ktL, ktL, ktN]
  simp
theorem kl_told (x : Con) : kl [toldN x] = 27 := by
  unfold kl toldN subT oneN
  simp [ktL, ktN]
theorem kl_cons (x : Nd) (xs : List Nd) : kl (x :: xs) = kl [x] + kl xs := kl_app [x] xs
theorem kl_brks : ∀ (l : List ByteArray) (i : Int) (j : Nat) (s : ByteArray), kl (brkNds i (l.set j s)) ≤ kl (brkNds i l) + 4
  | [], i, j, s => by rw [List.set_nil]; omega
  | a :: l, i, 0, s => by
    rw [List.set_cons_zero, brkNds, brkNds]
    have e : ∀ (q : ByteArray), kl (oneN kBreak [digS i, q] :: brkNds (i + 1) l) = 4 + kl (brkNds (i + 1) l) := fun q => by rw [kl_cons, kl_one]; rfl
    split <;> split <;> (try rw [e]) <;> (try rw [e]) <;> omega
  | a :: l, i, j + 1, s => by
    rw [List.set_cons_succ, brkNds, brkNds]
    have ih := kl_brks l (i + 1) j s
    split
    · exact ih
    · rw [kl_cons, kl_cons _ (brkNds (i + 1) l)]; omega
mutual
/-- how many bytes a statement needs at least -/
def wN : Nd → Nat
  | .mk k as_ b l _ => k.size + (as_.map fun a => max 1 a.size).sum + (if b then 2 + wL l else 1)
def wL : List Nd → Nat
  | [] => 0
  | x :: xs => wN x + wL xs
end
theorem wL_app : ∀ (xs ys : List Nd), wL (xs ++ ys) = wL xs + wL ys
  | [], ys => by rw [List.nil_append, wL, Nat.zero_add]
  | x :: xs, ys => by rw [List.cons_append, wL, wL, wL_app xs ys]; omega
theorem sum_one : ∀ (l : List ByteArray), l.length ≤ (l.map fun a => max 1 a.size).sum
  | [] => by simp
  | a :: l => by rw [List.map_cons, List.sum_cons, List.length_cons]; have := sum_one l; omega
theorem stmtS_pieces {c c' : Cf} {u u' : Con} {x : Nd} (h : stmtS c u x = .inr (c', u')) : 10 * kl (nodesC c') ≤ 10 * kl (nodesC c) + 27 * wN x := by
  obtain ⟨k, as_, b, l, n⟩ := x
  have hs := sum_one as_
  have hm1 : ∀ {m : Nat} {b' : Bool}, formP (.mk k as_ b l n) m b' = true → as_.length = m ∧ b = b' := fun hf => by
    unfold formP at hf
    rw [Bool.and_eq_true, decide_eq_true_eq, beq_iff_eq] at hf
    exact hf
  unfold stmtS at h
  split at h
  · rename_i hk
    have hk' : k.size = 7 := by have : k = kConsole := hk; rw [this]; rfl
    split at h
    · rename_i hf
      obtain ⟨f1, rfl⟩ := hm1 hf
      simp only at h
      split at h
      · cases h
      · cases hq : setsS c.cons { u with name := argN (.mk k as_ true l n) 0 } (subN (.mk k as_ true l n)) with
        | inl e => rw [hq] at h; cases h
        | inr y =>
          rw [hq] at h
          injection h with h; injection h with h1 h2; subst h1 h2
          unfold nodesC
          simp only [List.map_append, List.map_cons, List.map_nil, kl_app, kl_told]
          rw [wN, if_pos rfl]; omega
    · cases h
  split at h
  · rename_i hk
    have hk' : k.size = 5 := by have : k = kGroup := hk; rw [this]; rfl
    split at h
    · rename_i hlen
      split at h
      · simp only at h
        split at h
        · cases h
        · injection h with h; injection h with h1 h2; subst h1 h2
          unfold nodesC
          simp only [List.map_append, List.map_cons, List.map_nil, kl_app]
          unfold grpN
          rw [kl_one, wN]
          have : (argsN (.mk k as_ b l n)).tail.length ≤ as_.length := by show as_.tail.length ≤ _; rw [List.length_tail]; omega
          rw [List.length_cons]
          cases b with
          | false => simp only [Bool.false_eq_true, if_false]; omega
          | true => simp only [if_true]; omega
      · cases h
    · cases h
  split at h
  · rename_i hk
    have hk' : k.size = 4 := by have : k = kUser := hk; rw [this]; rfl
    split at h
    · rename_i hf
      obtain ⟨f1, rfl⟩ := hm1 hf
      split at h
      · simp only at h
        split at h
        · cases h
        · injection h with h; injection h with h1 h2; subst h1 h2
          unfold nodesC
          simp only [List.map_append, List.map_cons, List.map_nil, kl_app]
          unfold usrN
          rw [kl_one, wN]
          simp only [List.length_cons, List.length_nil]
          omega
      · cases h
    · cases h
  split at h
  · rename_i hk
    have hk' : k.size = 6 := by have : k = kAccess := hk; rw [this]; rfl
    split at h
    · rename_i hf
      obtain ⟨f1, rfl⟩ := hm1 hf
      split at h
      · cases hq : idx (fun s => decide (s = argN (.mk k as_ false l n) 2)) levels15 with
        | none => rw [hq] at h; cases h
        | some j =>
          rw [hq] at h
          simp only at h
          split at h
          · cases h
          · injection h with h; injection h with h1 h2; subst h1 h2
            unfold nodesC
            simp only [List.map_append, List.map_cons, List.map_nil, kl_app]
            unfold accN
            rw [kl_one, wN]
            simp only [List.length_cons, List.length_nil]
            omega
      · cases h
    · cases h
  split at h
  · rename_i hk
    have hk' : k.size = 5 := by have : k = kBreak := hk; rw [this]; rfl
    split at h
    · cases hq : numP (argN (.mk k as_ b l n) 0) 1 9 with
      | inl e => rw [hq] at h; cases h
      | inr i =>
        rw [hq] at h
        simp only at h
        obtain ⟨e, he⟩ : ∃ e, e = if (brkP (argN (.mk k as_ b l n) 1).data.toList).1 = 0 then (if (argN (.mk k as_ b l n) 1).size = 0 then (3 : Int) else 0) else (brkP (argN (.mk k as_ b l n) 1).data.toList).1 := ⟨_, rfl⟩
        rw [← he] at h
        split at h
        · cases h
        · split at h
          · cases h
          · injection h with h; injection h with h1 h2; subst h1 h2
            unfold nodesC
            simp only [kl_app]
            have := kl_brks c.brks 0 i.toNat (argN (.mk k as_ b l n) 1)
            rw [wN]
            omega
    · cases h
  split at h
  · split at h
    · cases hq : setsS c.cons u (subN (.mk k as_ b l n)) with
      | inl e => rw [hq] at h; cases h
      | inr y =>
        rw [hq] at h
        injection h with h; injection h with h1 h2; subst h1 h2
        omega
    · cases h
  · cases h
theorem stmts2_pieces : ∀ (xs : List Nd) (c c' : Cf) (u u' : Con), stmts2 c u xs = .inr (c', u') → 10 * kl (nodesC c') ≤ 10 * kl (nodesC c) + 27 * wL xs
  | [], c, c', u, u', h => by rw [stmts2] at h; injection h with h; injection h with h1 h2; subst h1 h2; omega
  | x :: xs, c, c', u, u', h => by
    rw [stmts2] at h
    cases hq : stmtS c u x with
    | inl e => rw [hq] at h; cases h
    | inr p =>
      rw [hq] at h
      obtain ⟨p1, p2⟩ := p
      have h1 := stmtS_pieces hq
      have h2 := stmts2_pieces xs p1 c' p2 u' h
      rw [wL]; omega
/-- what pieces need at least -/
def costP : List Pc → Nat
  | [] => 0
  | p :: l => max 1 p.text.size + costP l
theorem costP_app : ∀ (a b : List Pc), costP (a ++ b) = costP a + costP b
  | [], b => by rw [List.nil_append, costP, Nat.zero_add]
  | p :: a, b => by rw [List.cons_append, costP, costP, costP_app a b]; omega
theorem quoteP_sum : ∀ (l acc : List UInt8) (x : List UInt8 × List UInt8), quoteP acc l = some x → x.1.length + x.2.length + 1 ≤ acc.length + l.length
  | [], acc, x, h => by simp [quoteP] at h
  | c :: t, acc, x, h => by
    rw [quoteP_cons] at h
    split at h
    · injection h with h; subst h; rw [List.length_cons]; simp only; omega
    · split at h
      · match t, h with
        | [], h => simp at h
        | d :: u, h =>
          simp only at h
          split at h
          · have := quoteP_sum u (acc ++ [d]) x h
            rw [List.length_append] at this
            simp only [List.length_cons, List.length_nil] at this ⊢; omega
          · simp at h
      · split at h
        · simp at h
        · have := quoteP_sum t (acc ++ [c]) x h
          rw [List.length_append] at this
          simp only [List.length_cons, List.length_nil] at this ⊢; omega
theorem oneP_sum (l : List UInt8) (k : Int) (t r : List UInt8) (h : oneP l = some (k, t, r)) : max 1 t.length + r.length ≤ l.length := by
  cases l with
  | nil => simp [oneP] at h
  | cons c u =>
    rw [oneP_cons] at h
    rw [List.length_cons]
    split at h
    · injection h with h; injection h with _ h; injection h with h1 h2; subst h1 h2; simp; omega
    split at h
    · injection h with h; injection h with _ h; injection h with h1 h2; subst h1 h2; simp; omega
    split at h
    · injection h with h; injection h with _ h; injection h with h1 h2; subst h1 h2; simp; omega
    split at h
    · rw [Option.map_eq_some_iff] at h
      obtain ⟨x, hx, h⟩ := h
      injection h with _ h; injection h with h1 h2; subst h1 h2
      have := quoteP_sum u [] x hx
      rw [List.length_nil] at this
      omega
    split at h
    · rename_i hp
      injection h with h; injection h with _ h; injection h with h1 h2; subst h1 h2
      have h3 : (u.takeWhile plainB).length + (u.dropWhile plainB).length = u.length := by rw [← List.length_append, List.takeWhile_append_dropWhile]
      rw [List.dropWhile_cons, List.takeWhile_cons, hp]
      simp only [if_true, List.length_cons]
      omega
    · cases h
theorem readP_cost : ∀ (f : Nat) (ln : Int) (l : List UInt8) (out xs : List Pc), readP f ln l out = .inr xs → costP xs ≤ costP out + l.length
  | 0, ln, l, out, xs, h => by rw [readP] at h; injection h with h; subst h; omega
  | f + 1, ln, l, out, xs, h => by
    rw [readP] at h
    have hs := skipP_len l false ln
    obtain ⟨q, hq⟩ : ∃ q, q = skipP false ln l := ⟨_, rfl⟩
    rw [← hq] at h hs
    obtain ⟨q1, q2⟩ := q
    simp only at h hs
    split at h
    · injection h with h; subst h; omega
    · split at h
      · cases h
      · cases ho : oneP q2 with
        | none => rw [ho] at h; cases h
        | some p =>
          obtain ⟨k, t, r⟩ := p
          rw [ho] at h
          have h1 := oneP_sum q2 k t r ho
          have h2 := readP_cost f q1 r _ xs h
          rw [costP_app, costP, costP] at h2
          simp only [str_size] at h2
          omega
theorem costP_pos {p : Pc} {l : List Pc} : 1 + costP l ≤ costP (p :: l) := by rw [costP]; omega
theorem args_cost : ∀ (l : List Pc) (acc as_ : List ByteArray) (t : List Pc), argsP acc l = .inr (as_, t) → (as_.map fun a => max 1 a.size).sum + costP t ≤ (acc.map fun a => max 1 a.size).sum + costP l
  | [], acc, as_, t, h => by rw [argsP] at h; injection h with h; injection h with h1 h2; subst h1 h2; omega
  | x :: l, acc, as_, t, h => by
    rw [argsP] at h
    split at h
    · split at h
      · cases h
      · have := args_cost l _ _ _ h
        rw [List.map_append, List.sum_append] at this
        rw [costP]
        simp only [List.map_cons, List.map_nil, List.sum_cons, List.sum_nil] at this
        omega
    · injection h with h; injection h with h1 h2; subst h1 h2; omega
theorem one_cost {last : Int} {go : List Pc → (Int × Int) ⊕ (List Nd × List Pc)} {depth : Nat} {l : List Pc} {x : Nd} {t : List Pc} (hg : ∀ a b c, a.length < l.length → go a = .inr (b, c) → wL b + costP c ≤ costP a ∧ doneP (depth + 1) c = true) (h : oneP_t last go depth l = .inr (x, t)) : wN x + costP t ≤ costP l := by
  cases l with
  | nil => cases h
  | cons y l =>
    rw [oneP_t] at h
    split at h
    · cases h
    · cases ha : argsP [] l with
      | inl e => rw [ha] at h; cases h
      | inr p =>
        obtain ⟨as_, t2⟩ := p
        rw [ha] at h
        have h1 := args_cost _ _ _ _ ha
        have h1l := argsP_len _ _ _ _ ha
        rw [List.map_nil, List.sum_nil, Nat.zero_add] at h1
        rw [costP]
        have tailc : ∀ (q : List Pc), q ≠ [] → 1 + costP q.tail ≤ costP q := fun q hq => by
          cases q with
          | nil => exact absurd rfl hq
          | cons a b => exact costP_pos
        simp only at h
        split at h
        · rename_i h5
          injection h with h; injection h with h2 h3; subst h2 h3
          have := tailc t2 (fun e => by rw [e] at h5; exact absurd h5 (by decide))
          rw [wN]; simp only [Bool.false_eq_true, if_false]; omega
        · split at h
          · rename_i h3
            split at h
            · cases h
            · cases hq : go t2.tail with
              | inl e => rw [hq] at h; cases h
              | inr p =>
                obtain ⟨b, t3⟩ := p
                rw [hq] at h
                have hne : t2 ≠ [] := fun e => by rw [e] at h3; exact absurd h3 (by decide)
                have htl : t2.tail.length < (y :: l).length := by
                  have := tail_len t2
                  rw [List.length_cons]; omega
                obtain ⟨h4, h5⟩ := hg _ _ _ htl hq
                have := tailc t2 hne
                have h6 : t3 ≠ [] := fun e => by
                  rw [e] at h5
                  unfold doneP at h5
                  rw [decide_eq_true_eq] at h5
                  rcases h5 with h5 | h5
                  · omega
                  · exact absurd h5.1 (by decide)
                have := tailc t3 h6
                simp only at h
                injection h with h; injection h with h7 h8; subst h7 h8
                rw [wN]; simp only [if_true]; omega
          · cases h
theorem list_cost (last : Int) : ∀ (n f depth : Nat) (out : List Nd) (l : List Pc) (xs : List Nd) (t : List Pc), l.length ≤ n → l.length + 1 ≤ f → listP last f depth out l = .inr (xs, t) → wL xs + costP t ≤ wL out + costP l ∧ doneP depth t = true
  | n, 0, depth, out, l, xs, t, hn, hf, h => by omega
  | n, f + 1, depth, out, l, xs, t, hn, hf, h => by
    rw [listP] at h
    split at h
    · rename_i hd
      injection h with h; injection h with h1 h2; subst h1 h2; exact ⟨Nat.le_refl _, hd⟩
    · cases ho : oneP_t last (listP last f (depth + 1) []) depth l with
      | inl e => rw [ho] at h; cases h
      | inr p =>
        obtain ⟨x, t2⟩ := p
        rw [ho] at h
        have hlen := oneP_t_len (fun a b c hh => listP_len last f _ _ _ _ _ hh) ho
        cases n with
        | zero => omega
        | succ n =>
          have h1 := one_cost (fun a b c hal hh => by
            have := list_cost last n f (depth + 1) [] a b c (by omega) (by omega) hh
            rw [wL, Nat.zero_add] at this
            exact this) ho
          have h2 := list_cost last n f depth _ t2 xs t (by omega) (by omega) h
          rw [wL_app, wL, wL] at h2
          exact ⟨by omega, h2.2⟩
theorem treeP_cost {s : List UInt8} {xs : List Nd} (h : treeP s = .inr xs) : wL xs ≤ s.length := by
  unfold treeP at h
  cases hl : lexP s with
  | inl e => rw [hl] at h; cases h
  | inr l =>
    rw [hl] at h
    simp only at h
    cases hq : listP (lastP l) (l.length + 1) 0 [] l with
    | inl e => rw [hq] at h; cases h
    | inr p =>
      obtain ⟨out, t⟩ := p
      rw [hq] at h
      simp only at h
      injection h with h
      subst h
      have h1 := (list_cost _ l.length _ _ _ _ _ _ (Nat.le_refl _) (Nat.le_refl _) hq).1
      unfold lexP at hl
      split at hl
      · cases hl
      · have h2 := readP_cost _ _ _ _ _ hl
        rw [costP, Nat.zero_add] at h2
        rw [wL, Nat.zero_add] at h1
        omega
theorem kl_empty : kl (nodesC Cf.empty) = 0 := by kernel_rfl
theorem load_pieces {s : List UInt8} {c : Cf} (h : loadS s = .inr c) : 10 * kl (nodesC c) ≤ 27 * s.length := by
  unfold loadS at h
  cases ht : treeP s with
  | inl e => rw [ht] at h; cases h
  | inr l =>
    rw [ht] at h
    simp only at h
    obtain ⟨v, hv⟩ := stmtsS_ok.1 h
    have h1 := stmts2_pieces l _ _ _ _ hv
    have h2 := treeP_cost ht
    rw [kl_empty] at h1
    omega
/-- what is loaded, printed, is loaded as the same -/
theorem load_back {s : List UInt8} {c : Cf} (h : loadS s = .inr c) (hs : s.length ≤ 3000) : putL (nodesC c) 0 = some (printC c) ∧ ((printC c).length ≤ 60000 → loadS (printC c) = .inr c) := by
  have hg := load_good h
  obtain ⟨t, ht⟩ := ok_putL _ _ (ok_nodes hg)
  have e : printC c = t := by unfold printC; rw [ht]; rfl
  rw [e]
  refine ⟨ht, fun hl => ?_⟩
  have hk := load_pieces h
  unfold kl at hk
  obtain ⟨ys, h1, h2⟩ := treeP_put ht (by omega) (by omega)
  exact load_of h2 h1 (stmts_nodes hg usual0)
end Go.Proofs.YtfpajgmdejlaeaaGreatDoor
