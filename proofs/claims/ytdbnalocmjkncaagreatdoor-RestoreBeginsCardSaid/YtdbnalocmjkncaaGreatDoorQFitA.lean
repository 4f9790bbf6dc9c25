/-
  store, plainly: what every act keeps: no more are sure than there are, all names may be, all fits.
-/
import Derived.Test.YtdbnalocmjkncaaGreatDoorQStoK
namespace Go.Proofs.YtdbnalocmjkncaaGreatDoor
open Go.RowKit Go.Maps

structure Fit (most : Int) (l : List SFile) : Prop where
  fit : (totF l : Int) ≤ most
  each : ∀ f ∈ l, f.sure ≤ f.data.size ∧ namedP f.name = true

theorem totF_cons (f : SFile) (l : List SFile) : totF (f :: l) = f.data.size + totF l := by unfold totF; rw [List.map_cons, List.sum_cons]
theorem totF_perm {a b : List SFile} (h : a.Perm b) : totF a = totF b := by
  induction h with
  | nil => rfl
  | cons x _ ih => rw [totF_cons, totF_cons, ih]
  | swap x y l => rw [totF_cons, totF_cons, totF_cons, totF_cons]; omega
  | trans _ _ ih1 ih2 => rw [ih1, ih2]
theorem totF_mem {f : SFile} : ∀ {l : List SFile}, f ∈ l → f.data.size ≤ totF l
  | x :: l, h => by
    rw [totF_cons]
    rcases List.mem_cons.1 h with rfl | h
    · omega
    · have := totF_mem h; omega
def szG (nm : ByteArray) (l : List SFile) : Nat := match getG SFile.name nm l with
  | some f => f.data.size
  | none => 0
theorem totF_del (nm : ByteArray) : ∀ {l : List SFile}, Rise SFile.name l → totF (delG SFile.name nm l) + szG nm l = totF l
  | [], _ => rfl
  | x :: l, h => by
    obtain ⟨h1, h2⟩ := List.pairwise_cons.1 h
    have ih := totF_del nm h2
    by_cases hx : x.name = nm
    · subst hx
      have hn : getG SFile.name x.name l = none := by
        unfold getG
        rw [List.find?_eq_none]
        intro y hy
        simpa using fun e => nmLt_ne (h1 y hy) e.symm
      have e1 : delG SFile.name x.name (x :: l) = l := by
        have : delG SFile.name x.name (x :: l) = delG SFile.name x.name l := by unfold delG; rw [List.filter_cons_of_neg (by simp)]
        rw [this, delG_none hn]
      have e2 : szG x.name (x :: l) = x.data.size := by unfold szG getG; rw [List.find?_cons_of_pos (by simp)]
      rw [e1, e2, totF_cons]; omega
    · have e1 : delG SFile.name nm (x :: l) = x :: delG SFile.name nm l := by unfold delG; rw [List.filter_cons_of_pos (by simpa using hx)]
      have e2 : szG nm (x :: l) = szG nm l := by unfold szG getG; rw [List.find?_cons_of_neg (by simpa using hx)]
      rw [e1, e2, totF_cons, totF_cons]; omega
theorem totF_put (f : SFile) (l : List SFile) : totF (putG SFile.name f l) = totF (delG SFile.name f.name l) + f.data.size := by
  unfold putG
  rw [totF_perm (insG_perm f _), totF_cons]; omega
theorem put_mem {f x : SFile} {l : List SFile} (h : x ∈ putG SFile.name f l) : x = f ∨ x ∈ l := by
  rcases insG_mem.1 h with rfl | h
  · exact .inl rfl
  · exact .inr (delG_mem.1 h).1
theorem put_len (f : SFile) (l : List SFile) : (putG SFile.name f l).length ≤ l.length + 1 := by
  unfold putG
  rw [insG_len]
  have : (delG SFile.name f.name l).length ≤ l.length := List.length_filter_le _ _
  omega
theorem del_len (nm : ByteArray) (l : List SFile) : (delG SFile.name nm l).length ≤ l.length := List.length_filter_le _ _
theorem put_len_there {f : SFile} {l : List SFile} (hr : Rise SFile.name l) (h : ∃ y ∈ l, y.name = f.name) : (putG SFile.name f l).length = l.length := by
  rw [putG_there hr h, List.length_map]

/-- what an act leaves: fits, no more calls that fail, at most one file more -/
def Left (most : Int) (bad : Nat) (l : List SFile) (x : Int × Nat × List SFile) : Prop := Fit most x.2.2 ∧ x.2.1 ≤ bad ∧ x.2.2.length ≤ l.length + 1

section
variable {most : Int} {l : List SFile}
theorem Fit.same (h : Fit most l) (c : Int) {bad b' : Nat} (hb : b' ≤ bad) : Left most bad l (c, b', l) := ⟨h, hb, Nat.le_succ _⟩
theorem Fit.put (h : Fit most l) {f : SFile} (ht : (totF (delG SFile.name f.name l) : Int) + f.data.size ≤ most) (hs : f.sure ≤ f.data.size) (hn : namedP f.name = true) : Fit most (putG SFile.name f l) :=
  ⟨by rw [totF_put]; omega, fun x hx => by
    rcases put_mem hx with rfl | hx
    · exact ⟨hs, hn⟩
    · exact h.each x hx⟩
theorem Fit.del (h : Fit most l) (hr : Rise SFile.name l) (nm : ByteArray) : Fit most (delG SFile.name nm l) :=
  ⟨by have := totF_del nm hr; have := h.fit; omega, fun x hx => h.each x (delG_mem.1 hx).1⟩
theorem Fit.sync (h : Fit most l) (hr : Rise SFile.name l) (bad : Nat) (nm : ByteArray) : Left most bad l (syncP bad l nm) := by
  unfold syncP
  by_cases h0 : (beginC bad nm).1 ≠ 0
  · rw [if_pos h0]; exact h.same _ (begin_bad _ _)
  · rw [if_neg h0]
    have hd := totF_del nm hr
    unfold szG at hd
    cases hg : getG SFile.name nm l with
    | none => exact h.same _ (begin_bad _ _)
    | some f =>
      rw [hg] at hd
      simp only at hd
      have hf := h.fit
      exact ⟨h.put (by simp only; omega) (by simp) (begin_named (by simpa using h0)), begin_bad _ _, put_len _ _⟩
theorem Fit.remove (h : Fit most l) (hr : Rise SFile.name l) (bad : Nat) (nm : ByteArray) : Left most bad l (removeP bad l nm) := by
  unfold removeP
  by_cases h0 : (beginC bad nm).1 ≠ 0
  · rw [if_pos h0]; exact h.same _ (begin_bad _ _)
  · rw [if_neg h0]
    cases hg : getG SFile.name nm l with
    | none => exact h.same _ (begin_bad _ _)
    | some f => exact ⟨h.del hr nm, begin_bad _ _, Nat.le_succ_of_le (del_len _ _)⟩
theorem Fit.rename (h : Fit most l) (hr : Rise SFile.name l) (bad : Nat) (nm nt : ByteArray) : Left most bad l (renameP bad l nm nt) := by
  unfold renameP
  by_cases h0 : (beginC bad nm).1 ≠ 0
  · rw [if_pos h0]; exact h.same _ (begin_bad _ _)
  · rw [if_neg h0]
    by_cases h1 : namedP nt = false
    · rw [if_pos h1]; exact h.same _ (begin_bad _ _)
    · rw [if_neg h1]
      have hd := totF_del nm hr
      unfold szG at hd
      cases hg : getG SFile.name nm l with
      | none => exact h.same _ (begin_bad _ _)
      | some f =>
        rw [hg] at hd
        simp only at hd
        have hf := h.fit
        have hd2 := totF_del nt (delG_rise hr nm)
        have hfm := (getG_some hg).1
        exact ⟨(h.del hr nm).put (by simp only; omega) (h.each f hfm).1 (by simpa using h1), begin_bad _ _, by
          have h3 := put_len ⟨nt, f.data, f.sure⟩ (delG SFile.name nm l)
          have h4 := del_len nm l
          simp only; omega⟩
theorem Fit.append (h : Fit most l) (hr : Rise SFile.name l) (bad : Nat) (nm b : ByteArray) : Left most bad l (appendP most bad l nm b) := by
  unfold appendP
  by_cases h0 : (beginC bad nm).1 ≠ 0
  · rw [if_pos h0]; exact h.same _ (begin_bad _ _)
  · rw [if_neg h0]
    by_cases h1 : most < (totF l : Int) + b.size
    · rw [if_pos h1]; exact h.same _ (begin_bad _ _)
    · rw [if_neg h1]
      have hd := totF_del nm hr
      unfold szG at hd
      cases hg : getG SFile.name nm l with
      | none =>
        rw [hg] at hd
        simp only at hd
        exact ⟨h.put (by simp only; omega) (by simp) (begin_named (by simpa using h0)), begin_bad _ _, put_len _ _⟩
      | some f =>
        rw [hg] at hd
        simp only at hd
        have hsz : (f.data ++ b).size = f.data.size + b.size := ByteArray.size_append
        have hfm := (h.each f (getG_some hg).1).1
        exact ⟨h.put (by simp only; omega) (by simp only; omega) (begin_named (by simpa using h0)), begin_bad _ _, put_len _ _⟩
theorem crashF_size (keep : List Int) (j : Nat) {f : SFile} (h : f.sure ≤ f.data.size) : f.sure + moreC keep j f ≤ f.data.size := by
  unfold moreC
  cases keep[j]? with
  | none => simpa using h
  | some k => simp only; omega
theorem crashF_data (keep : List Int) (j : Nat) {f : SFile} (h : f.sure ≤ f.data.size) : (crashF keep j f).data.size = (crashF keep j f).sure ∧ f.sure ≤ (crashF keep j f).sure ∧ (crashF keep j f).sure ≤ f.data.size := by
  have := crashF_size keep j h
  unfold crashF
  simp only [ByteArray.size_extract]
  omega
theorem totF_idx : ∀ (l : List SFile) (g : Nat → SFile → SFile), (∀ i, ∀ f ∈ l, (g i f).data.size ≤ f.data.size) → totF (l.mapIdx g) ≤ totF l
  | [], _, _ => by simp
  | f :: l, g, h => by
    rw [List.mapIdx_cons, totF_cons, totF_cons]
    have h1 := h 0 f List.mem_cons_self
    have h2 := totF_idx l (fun i => g (i + 1)) fun i x hx => h (i + 1) x (List.mem_cons_of_mem _ hx)
    omega
theorem Fit.crash (h : Fit most l) (keep : List Int) : Fit most (crashP keep l) := by
  refine ⟨?_, fun x hx => ?_⟩
  · have := totF_idx l (crashF keep) fun i f hf => by have := crashF_data keep i (h.each f hf).1; omega
    have := h.fit
    unfold crashP; omega
  · obtain ⟨i, hi, rfl⟩ := List.getElem_of_mem hx
    have hi2 : i < l.length := by simpa [crashP] using hi
    have he : (crashP keep l)[i] = crashF keep i l[i] := List.getElem_mapIdx
    rw [he]
    have := h.each l[i] (List.getElem_mem hi2)
    exact ⟨by have := crashF_data keep i this.1; omega, this.2⟩
theorem crash_len (keep : List Int) (l : List SFile) : (crashP keep l).length = l.length := by unfold crashP; rw [List.length_mapIdx]

/-- an act of law11's, plainly -/
structure Op11 where
  kind : Nat
  a : ByteArray
  b : ByteArray
  s : ByteArray
  n : Int
  ka : Option Addr
  kn : Nat
  kc : Nat
  keep : List Int
def doP (most : Int) (bad : Nat) (l : List SFile) (o : Op11) : Nat × List SFile :=
  if o.kind % 8 = 2 then (syncP bad l o.a).2 else
  if o.kind % 8 = 3 then (renameP bad l o.a o.b).2 else
  if o.kind % 8 = 4 then (removeP bad l o.a).2 else
  if o.kind % 8 = 5 then (o.n.toNat, l) else
  if o.kind % 8 = 6 then (0, crashP o.keep l) else (appendP most bad l o.a o.s).2
end
end Go.Proofs.YtdbnalocmjkncaaGreatDoor
