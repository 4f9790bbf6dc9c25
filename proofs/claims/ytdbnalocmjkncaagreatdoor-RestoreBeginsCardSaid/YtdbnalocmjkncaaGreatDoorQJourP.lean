/-
  A log's generations, plainly: what a put leaves, what is read of all of them, what a crash leaves. No program in sight.
-/
import Derived.Test.YtdbnalocmjkncaaGreatDoorQGensP
import Derived.Test.YtdbnalocmjkncaaGreatDoorQGround3
import Derived.Test.YtdbnalocmjkncaaGreatDoorQStoK
namespace Go.Proofs.YtdbnalocmjkncaaGreatDoor
open Go.RowKit Go.Maps

def turnedP (base : ByteArray) (k bad : Nat) (l : List SFile) : Int × Nat × List SFile :=
  if (syncP bad l base).1 ≠ 0 then syncP bad l base else turnP base (k - 1) (syncP bad l base).2.1 (syncP bad l base).2.2
/-- bytes put into a log of k generations of so many bytes -/
def putP (mst : Int) (base : ByteArray) (k size bad : Nat) (l : List SFile) (b : ByteArray) : Int × Nat × List SFile :=
  if 0 < szG base l ∧ size < szG base l + b.size then
    if (turnedP base k bad l).1 ≠ 0 then turnedP base k bad l else appendP mst (turnedP base k bad l).2.1 (turnedP base k bad l).2.2 base b
  else appendP mst bad l base b
def curI (c : Option (List Itm × Nat)) : List Itm := match c with | some x => x.1 | none => []
def curS (c : Option (List Itm × Nat)) : Nat := match c with | some x => x.2 | none => 0
def flatS (xs : List Itm) : ByteArray := str (flatR xs)
/-- what is read of texts, one behind the other -/
def loadP (ds : List ByteArray) : List Itm := ds.flatMap fun d => scanI d.data.toList
/-- a log's generations: G the elder ones, the newest of them first, whatever bytes they are; cur the newest of all, and how many of its bytes are sure -/
structure Hist (base : ByteArray) (k : Nat) (l : List SFile) (G : List ByteArray) (cur : Option (List Itm × Nat)) : Prop where
  rise : Rise SFile.name l
  now : genV l base 0 = cur.map fun c => (flatS c.1, c.2)
  old : ∀ i, i + 1 < k → genV l base (i + 1) = G[i]?.map fun d => (d, d.size)
  len : G.length + 1 ≤ k
  okC : ∀ x ∈ curI cur, x.ok
  sure : curS cur ≤ (flatR (curI cur)).length
/-- .. of which n items, of all, are sure -/
structure Log (base : ByteArray) (k : Nat) (l : List SFile) (all : List Itm) (n : Nat) (gone : List Itm) (G : List ByteArray) (cur : Option (List Itm × Nat)) : Prop where
  hist : Hist base k l G cur
  all_ : all = gone ++ (loadP G.reverse ++ curI cur)
  sure : ∃ q, q ≤ (curI cur).length ∧ (flatR ((curI cur).take q)).length ≤ curS cur ∧ n ≤ gone.length + ((loadP G.reverse).length + q)
  full : gone = [] ∨ G.length + 1 = k

section
variable {base : ByteArray} {l : List SFile} {k n bad size : Nat} {al gone : List Itm} {G : List ByteArray} {cur : Option (List Itm × Nat)} {mst : Int}
theorem gen_zero : genF l base 0 = getG SFile.name base l := by
  unfold genF
  rw [genName_zero (by omega)]
theorem genV_put0 (hr : Rise SFile.name l) (d : ByteArray) (s : Nat) : genV (putG SFile.name ⟨base, d, s⟩ l) base 0 = some (d, s) := by
  unfold genV
  rw [gen_zero, get_put_eq hr ⟨base, d, s⟩]
  rfl
theorem genV_put1 (hr : Rise SFile.name l) (d : ByteArray) (s i : Nat) : genV (putG SFile.name ⟨base, d, s⟩ l) base (i + 1) = genV l base (i + 1) := by
  unfold genV genF
  rw [get_put_ne hr]
  have := genName_ne (base := base) (i := i + 1) (k := 0) (by omega)
  rwa [genName_zero (base := base) (i := ((0 : Nat) : Int)) (by omega)] at this
theorem flatS_cat (xs ys : List Itm) : flatS xs ++ flatS ys = flatS (xs ++ ys) := by
  apply ba_ext
  unfold flatS
  rw [flatR_append]
  simp [str]
theorem flatS_size (xs : List Itm) : (flatS xs).size = (flatR xs).length := rfl
/-- all that is there, the oldest first -/
theorem all_of {D : List ByteArray} {c : Option ByteArray} (h0 : (genF l base 0).map SFile.data = c) : ∀ {k : Nat}, (∀ i, i + 1 < k → (genF l base (i + 1)).map SFile.data = D[i]?) → 0 < k →
    allP l base k = (D.take (k - 1)).reverse ++ c.toList
  | 0, _, hk => by omega
  | 1, _, _ => by
    rw [allP_succ, ← h0]
    cases genF l base 0 with
    | none => rfl
    | some f => rfl
  | k + 2, h, _ => by
    rw [allP_succ, all_of h0 (k := k + 1) (fun i hi => h i (by omega)) (by omega)]
    have hk := h k (by omega)
    cases hg : genF l base (k + 1) with
    | none =>
      rw [hg] at hk
      have : D.length ≤ k := List.getElem?_eq_none_iff.1 hk.symm
      simp only [List.nil_append]
      rw [List.take_of_length_le (by omega), List.take_of_length_le (by omega)]
    | some f =>
      rw [hg] at hk
      have hk : D[k]? = some f.data := hk.symm
      have hlt : k < D.length := (List.getElem?_eq_some_iff.1 hk).1
      have he : D[k] = f.data := (List.getElem?_eq_some_iff.1 hk).2
      rw [show k + 2 - 1 = k + 1 by omega, List.take_succ_eq_append_getElem hlt, List.reverse_append, he]
      simp
theorem genV_data {i : Nat} : (genF l base i).map SFile.data = (genV l base i).map Prod.fst := by
  unfold genV
  cases genF l base i <;> rfl
theorem Hist.all (h : Hist base k l G cur) : allP l base k = G.reverse ++ (cur.map fun c => flatS c.1).toList := by
  have hl := h.len
  rw [all_of (D := G) (c := cur.map fun c => flatS c.1) (by rw [genV_data, h.now]; cases cur <;> rfl) (fun i hi => by rw [genV_data, h.old i hi]; cases G[i]? <;> rfl) (by omega)]
  rw [List.take_of_length_le (by omega)]
theorem scan_nil : scanI [] = [] := rfl
theorem scan_flatS {xs : List Itm} (h : ∀ x ∈ xs, x.ok) : scanI (flatS xs).data.toList = xs := by
  have := scan_flat h []
  rwa [List.append_nil, scan_nil, List.append_nil] at this
theorem load_app (a b : List ByteArray) : loadP (a ++ b) = loadP a ++ loadP b := by unfold loadP; exact List.flatMap_append
theorem load_one (d : ByteArray) : loadP [d] = scanI d.data.toList := by unfold loadP; simp
theorem load_nil : loadP [] = [] := rfl
theorem load_cur (h : ∀ x ∈ curI cur, x.ok) : loadP (cur.map fun c => flatS c.1).toList = curI cur := by
  cases cur with
  | none => rfl
  | some c => exact (load_one _).trans (scan_flatS h)
theorem Hist.load (h : Hist base k l G cur) : loadP (allP l base k) = loadP G.reverse ++ curI cur := by
  rw [h.all, load_app, load_cur h.okC]
theorem Log.load (h : Log base k l al n gone G cur) : al = gone ++ loadP (allP l base k) := by rw [h.hist.load]; exact h.all_
theorem Log.most (h : Log base k l al n gone G cur) : gone = [] ∨ k ≤ (allP l base k).length + 1 := by
  refine h.full.imp id fun hl => ?_
  rw [h.hist.all]
  simp
  omega
/-! a sync -/
theorem begin_zero {nm : ByteArray} (h : (beginC bad nm).1 = 0) : bad = 0 ∧ (beginC bad nm).2 = 0 ∧ namedP nm = true := by
  have hn := begin_named h
  unfold beginC at h ⊢
  rw [if_pos hn] at h ⊢
  by_cases hb : 0 < bad
  · rw [if_pos hb] at h; cases h
  · rw [if_neg hb]; exact ⟨by omega, by show bad = 0; omega, hn⟩
theorem begin_is0 {nm : ByteArray} (hn : namedP nm = true) : beginC 0 nm = (0, 0) := by unfold beginC; rw [if_pos hn, if_neg (by omega)]
theorem begin_12 {nm : ByteArray} : (beginC bad nm).1 ≠ 7 := by
  unfold beginC
  split
  · split <;> simp
  · simp
theorem Log.mono (h : Log base k l al n gone G cur) {m : Nat} (hm : m ≤ n) : Log base k l al m gone G cur :=
  ⟨h.hist, h.all_, let ⟨q, a, b, c⟩ := h.sure; ⟨q, a, b, by omega⟩, h.full⟩
theorem Log.getc (h : Log base k l al n gone G cur) : (getG SFile.name base l).map (fun f => (f.data, f.sure)) = cur.map fun c => (flatS c.1, c.2) := by
  have := h.hist.now
  unfold genV at this
  rwa [gen_zero] at this
theorem Log.all_sure (h : Log base k l al n gone G cur) : ∃ q, q ≤ (curI cur).length ∧ (flatR ((curI cur).take q)).length ≤ (flatR (curI cur)).length ∧ al.length ≤ gone.length + ((loadP G.reverse).length + q) := by
  refine ⟨(curI cur).length, Nat.le_refl _, by rw [List.take_length]; exact Nat.le_refl _, ?_⟩
  rw [h.all_]
  simp only [List.length_append]
  exact Nat.le_refl _
/-- all of it is sure -/
theorem Log.sync (h : Log base k l al n gone G cur) (hc : (syncP bad l base).1 = 0 ∨ (syncP bad l base).1 = 7) : ∃ cur', Log base k (syncP bad l base).2.2 al al.length gone G cur' ∧ curI cur' = curI cur ∧ ((syncP bad l base).1 = 0 → curS cur' = (flatR (curI cur')).length ∧ bad = 0 ∧ (syncP bad l base).2.1 = 0 ∧ cur' ≠ none) := by
  have hg := h.getc
  have hr := h.hist.rise
  unfold syncP at hc ⊢
  by_cases hb : (beginC bad base).1 = 0
  · rw [if_neg (by simp [hb])] at hc ⊢
    obtain ⟨b0, b1, hn⟩ := begin_zero hb
    cases hf : getG SFile.name base l with
    | none =>
      rw [hf] at hg
      have hcn : cur = none := by cases cur with
        | none => rfl
        | some c => cases hg
      subst hcn
      refine ⟨none, ⟨h.hist, h.all_, h.all_sure, h.full⟩, rfl, fun h7 => ?_⟩
      simp at h7
    | some f =>
      rw [hf] at hg
      obtain ⟨c, rfl⟩ : ∃ c, cur = some c := by cases cur with
        | none => cases hg
        | some c => exact ⟨c, rfl⟩
      have hd : f.data = flatS c.1 := (Prod.mk.inj (Option.some.inj hg)).1
      refine ⟨some (c.1, (flatR c.1).length), ⟨⟨putG_rise hr _, ?_, fun i hi => ?_, h.hist.len, h.hist.okC, Nat.le_refl _⟩, h.all_, h.all_sure, h.full⟩, rfl, fun _ => ⟨rfl, b0, b1, by simp⟩⟩
      · rw [genV_put0 hr, hd]; rfl
      · rw [genV_put1 hr]; exact h.hist.old i hi
  · rw [if_pos hb] at hc
    exact absurd hc (fun hh => hh.elim hb begin_12)
theorem sync_no (hc : (syncP bad l base).1 ≠ 0) : (syncP bad l base).2.2 = l := by
  unfold syncP at hc ⊢
  by_cases hb : (beginC bad base).1 = 0
  · rw [if_neg (by simp [hb])] at hc ⊢
    cases hf : getG SFile.name base l with
    | none => rfl
    | some f => rw [hf] at hc; exact absurd rfl hc
  · rw [if_pos hb]
/-! an append -/
theorem app_no {b : ByteArray} (hc : (appendP mst bad l base b).1 ≠ 0) : (appendP mst bad l base b).2.2 = l := by
  unfold appendP at hc ⊢
  by_cases hb : (beginC bad base).1 = 0
  · rw [if_neg (by simp [hb])] at hc ⊢
    by_cases hm : mst < (totF l : Int) + b.size
    · rw [if_pos hm]
    · rw [if_neg hm] at hc ⊢
      cases hf : getG SFile.name base l with
      | none => rw [hf] at hc; exact absurd rfl hc
      | some f => rw [hf] at hc; exact absurd rfl hc
  · rw [if_pos hb]
theorem app_ok {b : ByteArray} (hc : (appendP mst bad l base b).1 = 0) : (appendP mst bad l base b).2.2 = match getG SFile.name base l with
    | none => putG SFile.name ⟨base, b, 0⟩ l
    | some f => putG SFile.name ⟨base, f.data ++ b, f.sure⟩ l := by
  unfold appendP at hc ⊢
  by_cases hb : (beginC bad base).1 = 0
  · rw [if_neg (by simp [hb])] at hc ⊢
    by_cases hm : mst < (totF l : Int) + b.size
    · rw [if_pos hm] at hc; cases hc
    · rw [if_neg hm]
      cases hf : getG SFile.name base l <;> rfl
  · rw [if_pos hb] at hc
    exact absurd hc hb
theorem flatS_one (x : Itm) : flatS [x] = str (recP x) := by unfold flatS; rw [flatR_cons]; simp [flatR]
theorem Log.append (h : Log base k l al n gone G cur) {x : Itm} (hx : x.ok) (hc : (appendP mst bad l base (str (recP x))).1 = 0) :
    ∃ cur', Log base k (appendP mst bad l base (str (recP x))).2.2 (al ++ [x]) n gone G cur' := by
  have hg := h.getc
  have hr := h.hist.rise
  rw [app_ok hc]
  obtain ⟨q, q1, q2, q3⟩ := h.sure
  have hrl := recP_len x
  cases hf : getG SFile.name base l with
  | none =>
    rw [hf] at hg
    have hcn : cur = none := by cases cur with
      | none => rfl
      | some c => cases hg
    subst hcn
    refine ⟨some ([x], 0), ⟨⟨putG_rise hr _, ?_, fun i hi => ?_, h.hist.len, ?_, Nat.zero_le _⟩, ?_, ⟨0, Nat.zero_le _, Nat.le_refl _, ?_⟩, h.full⟩⟩
    · rw [genV_put0 hr, ← flatS_one]; rfl
    · rw [genV_put1 hr]; exact h.hist.old i hi
    · intro y hy; simp [curI] at hy; rw [hy]; exact hx
    · rw [h.all_]; simp [curI]
    · have : q = 0 := by simpa [curI] using q1
      omega
  | some f =>
    rw [hf] at hg
    obtain ⟨c, rfl⟩ : ∃ c, cur = some c := by cases cur with
      | none => cases hg
      | some c => exact ⟨c, rfl⟩
    obtain ⟨hd, hs⟩ := Prod.mk.inj (Option.some.inj hg)
    refine ⟨some (c.1 ++ [x], c.2), ⟨⟨putG_rise hr _, ?_, fun i hi => ?_, h.hist.len, ?_, ?_⟩, ?_, ⟨q, ?_, ?_, q3⟩, h.full⟩⟩
    · try simp only
      rw [genV_put0 hr, hd, hs, ← flatS_one, flatS_cat]; rfl
    · try simp only
      rw [genV_put1 hr]; exact h.hist.old i hi
    · intro y hy
      simp only [curI, List.mem_append, List.mem_singleton] at hy
      rcases hy with hy | rfl
      · exact h.hist.okC y hy
      · exact hx
    · have := h.hist.sure
      simp only [curI, curS] at this ⊢
      rw [flatR_append, List.length_append]
      omega
    · rw [h.all_]; simp [curI]
    · simp only [curI, List.length_append] at q1 ⊢; omega
    · simp only [curI, curS] at q1 q2 ⊢
      rw [List.take_append_of_le_length q1]
      exact q2
/-! a turn -/
/-- a log of which all bytes are sure, whatever bytes they are: behind a crash, or behind a sync -/
structure Cut (base : ByteArray) (k : Nat) (l : List SFile) (all gone : List Itm) (G : List ByteArray) (cur : Option ByteArray) : Prop where
  rise : Rise SFile.name l
  now : genV l base 0 = cur.map fun d => (d, d.size)
  old : ∀ i, i + 1 < k → genV l base (i + 1) = G[i]?.map fun d => (d, d.size)
  len : G.length + 1 ≤ k
  all_ : all = gone ++ (loadP G.reverse ++ loadP cur.toList)
  full : gone = [] ∨ G.length + 1 = k
theorem Cut.none_ (hk : 1 ≤ k) : Cut base k [] [] [] [] none :=
  ⟨List.Pairwise.nil, rfl, fun i hi => rfl, by simp; omega, rfl, .inl rfl⟩
theorem Cut.read {cur : Option ByteArray} (h : Cut base k l al gone G cur) : allP l base k = G.reverse ++ cur.toList := by
  have hl := h.len
  rw [all_of (D := G) (c := cur) (by rw [genV_data, h.now]; cases cur <;> rfl) (fun i hi => by rw [genV_data, h.old i hi]; cases G[i]? <;> rfl) (by omega)]
  rw [List.take_of_length_le (by omega)]
/-- nothing is there to be turned -/
theorem Cut.empty (h : Cut base k l al gone G none) : Log base k l al al.length gone G none := by
  have e := h.all_
  simp only [Option.toList_none, load_nil] at e
  refine ⟨⟨h.rise, h.now, h.old, h.len, by simp [curI], by simp [curS]⟩, e, ⟨0, Nat.zero_le _, Nat.zero_le _, ?_⟩, h.full⟩
  rw [e]; simp
theorem Cut.turn {d : ByteArray} (h : Cut base k l al gone G (some d)) (hnm : ∀ i : Nat, i ≤ 16 → namedP (genName base i) = true) (hk : k ≤ 16) :
    (turnP base (k - 1) 0 l).1 = 0 ∧ (turnP base (k - 1) 0 l).2.1 = 0 ∧ ∃ gone' G', Log base k (turnP base (k - 1) 0 l).2.2 al al.length gone' G' none := by
  have hlen := h.len
  obtain ⟨a1, a2, a3, a4, a5, a6⟩ := turn_ok (base := base) (l := l) hnm (k - 1) (by omega) h.rise
  refine ⟨a1, a2, ?_⟩
  obtain ⟨l2, hl2⟩ : ∃ l2, l2 = (turnP base (k - 1) 0 l).2.2 := ⟨_, rfl⟩
  rw [← hl2] at a3 a4 a5 ⊢
  have hold : ∀ i, i + 1 < k → genV l2 base (i + 1) = ((d :: G).take (k - 1))[i]?.map fun x => (x, x.size) := by
    intro i hi
    rw [a4 i (by omega), List.getElem?_take, if_pos (by omega)]
    rcases i with _ | i
    · rw [h.now]; simp
    · rw [h.old i (by omega)]; simp
  have hall := h.all_
  simp only [Option.toList_some] at hall
  have hsplit : ∀ m, loadP (d :: G).reverse = loadP ((d :: G).drop m).reverse ++ loadP ((d :: G).take m).reverse := by
    intro m
    rw [← load_app, ← List.reverse_append, List.take_append_drop]
  have h2 : loadP (d :: G).reverse = loadP G.reverse ++ loadP [d] := by rw [List.reverse_cons, load_app]
  rw [← h2] at hall
  by_cases hfl : G.length + 1 = k
  · refine ⟨gone ++ loadP ((d :: G).drop (k - 1)).reverse, (d :: G).take (k - 1), ⟨⟨a3, by rw [a5]; rfl, hold, by simp; omega, by simp [curI], by simp [curS]⟩, ?_, ?_, .inr (by simp; omega)⟩⟩
    · rw [hall, hsplit (k - 1)]; simp [curI]
    · refine ⟨0, Nat.zero_le _, Nat.zero_le _, ?_⟩
      rw [hall, hsplit (k - 1)]
      simp only [List.length_append]
      omega
  · have hg0 : gone = [] := h.full.resolve_right hfl
    have htk : (d :: G).take (k - 1) = d :: G := List.take_of_length_le (by simp; omega)
    rw [htk] at hold
    refine ⟨[], d :: G, ⟨⟨a3, by rw [a5]; rfl, hold, by simp; omega, by simp [curI], by simp [curS]⟩, ?_, ⟨0, Nat.zero_le _, Nat.zero_le _, ?_⟩, .inl rfl⟩⟩
    · rw [hall, hg0]; simp [curI]
    · rw [hall, hg0]; simp
theorem Log.turned (h : Log base k l al n gone G cur) (hnm : ∀ i : Nat, i ≤ 16 → namedP (genName base i) = true) (hk : k ≤ 16) (hc : (syncP bad l base).1 = 0) :
    (turnedP base k bad l).1 = 0 ∧ (turnedP base k bad l).2.1 = 0 ∧ ∃ gone' G', Log base k (turnedP base k bad l).2.2 al al.length gone' G' none := by
  obtain ⟨cur', hL, hci, h0⟩ := h.sync (bad := bad) (.inl hc)
  obtain ⟨hs, _, hb0, hne⟩ := h0 hc
  obtain ⟨c, rfl⟩ : ∃ c, cur' = some c := by cases cur' with
    | none => exact absurd rfl hne
    | some c => exact ⟨c, rfl⟩
  unfold turnedP
  rw [if_neg (by simp [hc]), hb0]
  simp only [curS, curI] at hs
  have hC : Cut base k (syncP bad l base).2.2 al gone G (some (flatS c.1)) := by
    refine ⟨hL.hist.rise, ?_, hL.hist.old, hL.hist.len, ?_, hL.full⟩
    · rw [hL.hist.now]; simp [hs, flatS_size]
    · rw [hL.all_]
      congr 2
      exact ((load_one _).trans (scan_flatS hL.hist.okC)).symm
  exact hC.turn hnm hk
theorem Log.put (h : Log base k l al n gone G cur) (hnm : ∀ i : Nat, i ≤ 16 → namedP (genName base i) = true) (hk : k ≤ 16) (hn : n ≤ al.length) {x : Itm} (hx : x.ok) (R : Int × Nat × List SFile) (hR : R = putP mst base k size bad l (str (recP x))) :
    (R.1 = 0 ∧ ∃ gone' G' cur', Log base k R.2.2 (al ++ [x]) n gone' G' cur') ∨ (R.1 ≠ 0 ∧ ∃ gone' G' cur', Log base k R.2.2 al n gone' G' cur') := by
  unfold putP at hR
  by_cases ht : 0 < szG base l ∧ size < szG base l + (str (recP x)).size
  · rw [if_pos ht] at hR
    by_cases hs : (syncP bad l base).1 = 0
    · obtain ⟨t1, t2, gone', G', hL⟩ := h.turned hnm hk hs
      rw [if_neg (by simp [t1])] at hR
      subst hR
      have hL := hL.mono hn
      by_cases ha : (appendP mst (turnedP base k bad l).2.1 (turnedP base k bad l).2.2 base (str (recP x))).1 = 0
      · obtain ⟨cur', hA⟩ := hL.append hx ha
        exact .inl ⟨ha, _, _, _, hA⟩
      · refine .inr ⟨ha, gone', G', none, ?_⟩
        rw [app_no ha]
        exact hL
    · have e : turnedP base k bad l = syncP bad l base := by unfold turnedP; rw [if_pos hs]
      rw [e, if_pos hs] at hR
      subst hR
      refine .inr ⟨hs, gone, G, cur, ?_⟩
      rw [sync_no hs]
      exact h
  · rw [if_neg ht] at hR
    subst hR
    by_cases ha : (appendP mst bad l base (str (recP x))).1 = 0
    · obtain ⟨cur', hA⟩ := h.append hx ha
      exact .inl ⟨ha, _, _, _, hA⟩
    · refine .inr ⟨ha, gone, G, cur, ?_⟩
      rw [app_no ha]
      exact h
theorem Log.none_ (hk : 1 ≤ k) : Log base k [] [] 0 [] [] none :=
  ⟨⟨List.Pairwise.nil, rfl, fun i hi => rfl, by simp; omega, by simp [curI], by simp [curS]⟩, rfl, ⟨0, Nat.zero_le _, Nat.zero_le _, Nat.zero_le _⟩, .inl rfl⟩
/-! a crash -/
theorem getG_idx (nm : ByteArray) : ∀ (l : List SFile) (g : Nat → SFile → SFile), (∀ i f, (g i f).name = f.name) →
    (getG SFile.name nm l = none ∧ getG SFile.name nm (l.mapIdx g) = none) ∨ ∃ j f, getG SFile.name nm l = some f ∧ getG SFile.name nm (l.mapIdx g) = some (g j f)
  | [], _, _ => .inl ⟨rfl, rfl⟩
  | f :: l, g, hg => by
    rw [List.mapIdx_cons]
    unfold getG
    rw [List.find?_cons, List.find?_cons, hg]
    by_cases he : f.name = nm
    · rw [decide_eq_true he]
      exact .inr ⟨0, f, rfl, rfl⟩
    · rw [decide_eq_false he]
      rcases getG_idx nm l (fun i => g (i + 1)) (fun i f => hg _ f) with ⟨h1, h2⟩ | ⟨j, f', h1, h2⟩
      · exact .inl ⟨h1, h2⟩
      · exact .inr ⟨j + 1, f', h1, h2⟩
theorem genV_crash (keep : List Int) (i : Nat) : (genV l base i = none ∧ genV (crashP keep l) base i = none) ∨ ∃ d s m, genV l base i = some (d, s) ∧ genV (crashP keep l) base i = some (d.extract 0 (s + m), s + m) ∧ (s ≤ d.size → s + m ≤ d.size) := by
  unfold genV genF crashP
  rcases getG_idx (genName base (i : Nat)) l (crashF keep) (fun _ _ => rfl) with ⟨h1, h2⟩ | ⟨j, f, h1, h2⟩
  · rw [h1, h2]; exact .inl ⟨rfl, rfl⟩
  · rw [h1, h2]
    exact .inr ⟨f.data, f.sure, moreC keep j f, rfl, rfl, fun hs => crashF_size keep j hs⟩
theorem extract_all (d : ByteArray) : d.extract 0 d.size = d := by
  apply ba_ext
  simp
theorem take_flat {xs : List Itm} (m : Nat) : ((flatS xs).extract 0 m).data.toList = (flatR xs).take m := by
  unfold flatS
  simp only [ByteArray.data_extract, Array.toList_extract, List.extract_eq_take_drop, str_list]
  simp
theorem crash_rise (keep : List Int) {l : List SFile} (h : Rise SFile.name l) : Rise SFile.name (crashP keep l) := by
  unfold Rise at h ⊢
  have e : (crashP keep l).map SFile.name = l.map SFile.name := by
    apply List.ext_getElem?
    intro i
    unfold crashP
    rw [List.getElem?_map, List.getElem?_map, List.getElem?_mapIdx]
    cases l[i]? <;> rfl
  have h2 : (l.map SFile.name).Pairwise fun a b => nmLt a b = true := by rw [List.pairwise_map]; exact h
  rw [← e, List.pairwise_map] at h2
  exact h2
/-- behind a crash: a piece, which ends not ahead of what was sure; all of it is sure then -/
theorem Log.crash2 (h : Log base k l al n gone G cur) (keep : List Int) : ∃ rest cur', al = gone ++ (loadP (allP (crashP keep l) base k) ++ rest) ∧ n ≤ gone.length + (loadP (allP (crashP keep l) base k)).length ∧ Cut base k (crashP keep l) (loadP (allP (crashP keep l) base k)) [] G cur' := by
  have hH := h.hist
  have hrc : Rise SFile.name (crashP keep l) := crash_rise keep hH.rise
  have hold : ∀ i, i + 1 < k → genV (crashP keep l) base (i + 1) = G[i]?.map fun d => (d, d.size) := by
    intro i hi
    have ho := hH.old i hi
    rcases genV_crash (l := l) (base := base) keep (i + 1) with ⟨h1, h2⟩ | ⟨d, s, m, h1, h2, h3⟩
    · rw [h2, ← ho, h1]
    · rw [h2]
      rw [h1] at ho
      cases hg : G[i]? with
      | none => rw [hg] at ho; cases ho
      | some xs =>
        rw [hg] at ho
        obtain ⟨e1, e2⟩ := Prod.mk.inj (Option.some.inj ho)
        subst e1 e2
        have hle := h3 (Nat.le_refl _)
        have hm : m = 0 := by omega
        subst hm
        show some (d.extract 0 d.size, d.size) = some (d, d.size)
        rw [extract_all]
  have hlen := hH.len
  obtain ⟨q, q1, q2, q3⟩ := h.sure
  rcases genV_crash (l := l) (base := base) keep 0 with ⟨h1, h2⟩ | ⟨d, s, m, h1, h2, h3⟩
  · have hn := hH.now
    rw [h1] at hn
    have hcn : cur = none := by cases cur with
      | none => rfl
      | some c => cases hn
    subst hcn
    have hC : ∀ al', al' = [] ++ (loadP G.reverse ++ loadP (none : Option ByteArray).toList) → Cut base k (crashP keep l) al' [] G none := fun al' ha => ⟨hrc, by rw [h2]; rfl, hold, hlen, ha, .inl rfl⟩
    have e := (hC _ rfl).read
    have hz : loadP (allP (crashP keep l) base k) = loadP G.reverse ++ loadP (none : Option ByteArray).toList := by rw [e, load_app]
    refine ⟨[], none, ?_, ?_, hC _ (by rw [hz]; rfl)⟩
    · rw [h.all_, hz]; simp [curI, load_nil]
    · have : q = 0 := by simpa [curI] using q1
      rw [hz]
      simp [load_nil] at q3 ⊢
      omega
  · have hn := hH.now
    rw [h1] at hn
    obtain ⟨c, rfl⟩ : ∃ c, cur = some c := by cases cur with
      | none => cases hn
      | some c => exact ⟨c, rfl⟩
    obtain ⟨e1, e2⟩ := Prod.mk.inj (Option.some.inj hn)
    try simp only at e1 e2
    subst e1 e2
    have hsm := h3 (by rw [flatS_size]; exact hH.sure)
    have hC : ∀ al', al' = [] ++ (loadP G.reverse ++ loadP (some ((flatS c.1).extract 0 (c.2 + m))).toList) → Cut base k (crashP keep l) al' [] G (some ((flatS c.1).extract 0 (c.2 + m))) := fun al' ha => by
      refine ⟨hrc, ?_, hold, hlen, ha, .inl rfl⟩
      rw [h2]
      have : ((flatS c.1).extract 0 (c.2 + m)).size = c.2 + m := by simp only [ByteArray.size_extract]; omega
      simp [this]
    have e := (hC _ rfl).read
    obtain ⟨z, z1, z2, _, z4⟩ := scan_take hH.okC (c.2 + m)
    simp only [curI, curS] at q1 q2 z1 z2 z4
    have hz1 : loadP (some ((flatS c.1).extract 0 (c.2 + m))).toList = c.1.take z := by
      show loadP [_] = _
      rw [load_one, take_flat, z2]
    have hz : loadP (allP (crashP keep l) base k) = loadP G.reverse ++ c.1.take z := by
      rw [e, load_app, hz1]
    have hq := z4 q q1 (by omega)
    rw [hz]
    refine ⟨c.1.drop z, _, ?_, ?_, hC _ (by rw [hz1]; rfl)⟩
    · rw [h.all_]
      simp [curI]
    · rw [List.length_append, List.length_take]
      omega
theorem Log.crash (h : Log base k l al n gone G cur) (keep : List Int) : ∃ rest, al = gone ++ (loadP (allP (crashP keep l) base k) ++ rest) ∧ n ≤ gone.length + (loadP (allP (crashP keep l) base k)).length := by
  obtain ⟨r, _, h1, h2, _⟩ := h.crash2 keep
  exact ⟨r, h1, h2⟩
end
/-! what gaps tell -/
def gapN (x : Itm) : Nat := if x.kind = 3 then x.body.data.toList.foldl (fun n c => 10 * n + (c.toNat - 48)) 0 else 0
theorem gap_dec (n : Nat) : (decN n).foldl (fun m c => 10 * m + (c.toNat - 48)) 0 = n := by
  induction n using Nat.strongRecOn with
  | ind n ih =>
    by_cases h : n < 10
    · rw [decN_small h]
      simp [digc_nat h]
    · rw [decN_big (by omega), List.foldl_append, ih (n / 10) (by omega)]
      simp [digc_nat (show n % 10 < 10 by omega)]
      omega
end Go.Proofs.YtdbnalocmjkncaaGreatDoor
