/-
  The texts of configurations are not endless. No program in sight.
-/
import Derived.Test.YtfpajgmdejlaeaaGreatDoorQConfZ
namespace Go.Proofs.YtfpajgmdejlaeaaGreatDoor
open Go.RowKit

/-! what may be is not endless -/
theorem fine_one {k : ByteArray} {as_ : List ByteArray} (hk : k.size ≤ 1073741824) (hl : as_.length ≤ 16384) (h : ∀ s ∈ as_, s.size ≤ 1073741824) : fineN (oneN k as_) := by
  unfold oneN
  rw [fineN, fineL]
  exact ⟨hl, hk, h, trivial⟩
theorem fineL_app : ∀ (xs ys : List Nd), fineL xs → fineL ys → fineL (xs ++ ys)
  | [], ys, _, h => h
  | x :: xs, ys, h, h2 => by
    rw [fineL] at h
    rw [List.cons_append, fineL]
    exact ⟨h.1, fineL_app xs ys h.2 h2⟩
theorem fineL_map {α : Type} {f : α → Nd} : ∀ (l : List α), (∀ x ∈ l, fineN (f x)) → fineL (l.map f)
  | [], _ => by rw [List.map_nil, fineL]; trivial
  | x :: l, h => by rw [List.map_cons, fineL]; exact ⟨h x (by simp), fineL_map l fun y hy => h y (by simp [hy])⟩
/-- the texts of a configuration are not endless -/
structure CfShort (c : Cf) : Prop where
  cons : ∀ x ∈ c.cons, x.name.size ≤ 1073741824 ∧ x.init.size ≤ 1073741824 ∧ ∀ n ∈ [x.lines, x.bytes, x.gens, x.size, x.base, x.cap, x.jitter], -9223372036854775808 ≤ n ∧ n ≤ 9223372036854775807
  grps : ∀ x ∈ c.grps, x.name.size ≤ 1073741824 ∧ x.pats.length ≤ 16383 ∧ ∀ s ∈ x.pats, s.size ≤ 1073741824
  usrs : ∀ x ∈ c.usrs, x.name.size ≤ 1073741824 ∧ x.pass.size ≤ 1073741824
  accs : ∀ x ∈ c.accs, x.con.size ≤ 1073741824 ∧ x.user.size ≤ 1073741824
  brks : c.brks.length ≤ 10 ∧ ∀ s ∈ c.brks, s.size ≤ 1073741824
theorem digS_size {n : Int} (h1 : -9223372036854775808 ≤ n) (h2 : n ≤ 9223372036854775807) : (digS n).size ≤ 1073741824 := by
  unfold digS
  rw [str_size]
  exact Nat.le_trans (dec_le h1 h2) (by omega)
theorem kindW_size (k : Int) : (kindW k).size ≤ 1073741824 := by unfold kindW; split; decide; split <;> decide
theorem levelW_size (k : Int) : (levelW k).size ≤ 1073741824 := by
  unfold levelW
  split
  · rename_i h
    obtain ⟨j, rfl⟩ : ∃ j : Nat, k = j := ⟨k.toNat, by omega⟩
    have : j = 0 ∨ j = 1 ∨ j = 2 ∨ j = 3 := by omega
    rcases this with rfl | rfl | rfl | rfl <;> decide
  · decide
theorem fine_brks : ∀ (l : List ByteArray) (i : Int), 0 ≤ i → i + l.length ≤ 1000 → (∀ s ∈ l, s.size ≤ 1073741824) → fineL (brkNds i l)
  | [], i, _, _, _ => by rw [brkNds, fineL]; trivial
  | s :: l, i, h0, h1, h => by
    rw [List.length_cons] at h1
    have ih := fine_brks l (i + 1) (by omega) (by omega) fun x hx => h x (by simp [hx])
    rw [brkNds]
    split
    · exact ih
    · rw [fineL]
      refine ⟨fine_one (by decide) (by simp) fun a ha => ?_, ih⟩
      simp only [List.mem_cons, List.not_mem_nil, or_false] at ha
      rcases ha with rfl | rfl
      · exact digS_size (by omega) (by omega)
      · exact h a (by simp)
theorem fine_short {c : Cf} (h : CfShort c) : fineL (nodesC c) := by
  unfold nodesC
  refine fineL_app _ _ (fineL_app _ _ (fineL_app _ _ (fineL_app _ _ (fine_brks _ _ (by omega) (by have := h.brks.1; omega) h.brks.2) (fineL_map _ fun x hx => ?_)) (fineL_map _ fun x hx => ?_)) (fineL_map _ fun x hx => ?_)) (fineL_map _ fun x hx => ?_)
  · obtain ⟨h1, h2, h3⟩ := h.cons x hx
    unfold toldN
    rw [fineN]
    refine ⟨by simp, by decide, fun s hs => by obtain rfl := List.mem_singleton.1 hs; exact h1, ?_⟩
    have one1 : ∀ (k a : ByteArray), k.size ≤ 1073741824 → a.size ≤ 1073741824 → fineN (oneN k [a]) := fun k a hk ha => fine_one hk (by simp) fun b hb => by obtain rfl := List.mem_singleton.1 hb; exact ha
    have d := fun n hn => digS_size (h3 n hn).1 (h3 n hn).2
    unfold subT
    rw [fineL, fineL, fineL, fineL, fineL, fineL, fineL, fineL]
    refine ⟨one1 _ _ (by decide) (kindW_size _), one1 _ _ (by decide) (d _ (by simp)), one1 _ _ (by decide) (d _ (by simp)), one1 _ _ (by decide) (d _ (by simp)), one1 _ _ (by decide) (d _ (by simp)), ?_, one1 _ _ (by decide) h2, trivial⟩
    refine fine_one (by decide) (by simp) fun a ha => ?_
    simp only [List.mem_cons, List.not_mem_nil, or_false] at ha
    rcases ha with rfl | rfl | rfl <;> exact d _ (by simp)
  · obtain ⟨h1, h2, h3⟩ := h.grps x hx
    refine fine_one (by decide) (by rw [List.length_cons]; omega) fun a ha => ?_
    rcases List.mem_cons.1 ha with rfl | ha
    · exact h1
    · exact h3 a ha
  · obtain ⟨h1, h2⟩ := h.usrs x hx
    refine fine_one (by decide) (by simp) fun a ha => ?_
    simp only [List.mem_cons, List.not_mem_nil, or_false] at ha
    rcases ha with rfl | rfl
    · exact h1
    · exact h2
  · obtain ⟨h1, h2⟩ := h.accs x hx
    refine fine_one (by decide) (by simp) fun a ha => ?_
    simp only [List.mem_cons, List.not_mem_nil, or_false] at ha
    rcases ha with rfl | rfl | rfl
    · exact h1
    · exact h2
    · exact levelW_size _
theorem is_size {s : ByteArray} (h : isB s = true) : s.size ≤ 32 := by
  unfold isB at h
  cases hs : s.data.toList with
  | nil => rw [hs] at h; cases h
  | cons c t => rw [hs] at h; simp only [Bool.and_eq_true, decide_eq_true_eq] at h; exact h.1.1
theorem fits_size {s : ByteArray} (h : fitsB s = true) : s.size ≤ 32 := by
  unfold fitsB at h
  simp only [Bool.and_eq_true, decide_eq_true_eq] at h
  exact h.1.2
theorem secret_size {s : ByteArray} (h : secretB s = true) : s.size ≤ 32 := by
  unfold secretB at h
  simp only [Bool.and_eq_true, decide_eq_true_eq] at h
  exact h.1.2
theorem brk_size {s : ByteArray} (h : (brkP s.data.toList).1 = 0) : s.size ≤ 255 := by
  unfold brkP at h
  have hl : s.data.toList.length = s.size := by simp
  split at h
  · simp at h
  · omega
theorem CfG.short {c : Cf} (h : CfG c) : CfShort c := by
  refine ⟨fun x hx => ?_, fun x hx => ?_, fun x hx => ?_, fun x hx => ?_, ⟨by rw [h.brksL]; omega, fun s hs => ?_⟩⟩
  · obtain ⟨h1, h2⟩ := h.cons x hx
    have := is_size h1
    have := brk_size h2.init
    refine ⟨by omega, by omega, fun n hn => ?_⟩
    have a1 := h2.lines; have a2 := h2.bytes; have a3 := h2.gens; have a4 := h2.size; have a5 := h2.base; have a6 := h2.cap; have a7 := h2.jitter
    simp only [List.mem_cons, List.not_mem_nil, or_false] at hn
    rcases hn with rfl | rfl | rfl | rfl | rfl | rfl | rfl <;> omega
  · obtain ⟨h1, h2, h3, h4⟩ := h.grps x hx
    have := is_size h1
    exact ⟨by omega, by omega, fun s hs => by have := fits_size (List.all_eq_true.1 h4 s hs); omega⟩
  · obtain ⟨h1, h2⟩ := h.usrs x hx
    have := is_size h1
    have := secret_size h2
    exact ⟨by omega, by omega⟩
  · obtain ⟨h1, h2, -, -⟩ := h.accs x hx
    have := fits_size h1
    have := fits_size h2
    exact ⟨by omega, by omega⟩
  · rcases h.brks s hs with e | e
    · omega
    · have := brk_size e; omega
theorem fine_good {c : Cf} (h : CfG c) : fineL (nodesC c) := fine_short h.short
end Go.Proofs.YtfpajgmdejlaeaaGreatDoor
