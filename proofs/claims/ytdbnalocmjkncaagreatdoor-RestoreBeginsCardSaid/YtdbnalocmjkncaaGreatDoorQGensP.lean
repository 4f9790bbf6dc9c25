/-
  gens, plainly: names of generations, what each holds, and what a turn does. No program in sight.
-/
import Derived.Test.YtdbnalocmjkncaaGreatDoorQFitA
import Derived.Test.YtdbnalocmjkncaaGreatDoorQGround2
namespace Go.Proofs.YtdbnalocmjkncaaGreatDoor
open Go.RowKit Go.Maps

theorem digc_inj {a b : Nat} (ha : a < 10) (hb : b < 10) (h : digc a = digc b) : a = b := by
  have h1 := digc_nat ha
  have h2 := digc_nat hb
  rw [h] at h1
  omega
theorem decN_inj : ∀ {a b : Nat}, decN a = decN b → a = b := by
  intro a
  induction a using Nat.strongRecOn with
  | _ a ih =>
    intro b h
    by_cases ha : a < 10
    · by_cases hb : b < 10
      · rw [decN_small ha, decN_small hb] at h
        exact digc_inj ha hb (by simpa using h)
      · rw [decN_small ha, decN_big (n := b) (by omega)] at h
        have hl := congrArg List.length h
        have h2 := decN_pos (b / 10)
        rw [List.length_append, List.length_cons, List.length_cons, List.length_nil] at hl
        omega
    · by_cases hb : b < 10
      · rw [decN_small hb, decN_big (n := a) (by omega)] at h
        have hl := congrArg List.length h
        have h2 := decN_pos (a / 10)
        rw [List.length_append, List.length_cons, List.length_cons, List.length_nil] at hl
        omega
      · rw [decN_big (n := a) (by omega), decN_big (n := b) (by omega)] at h
        obtain ⟨h1, h2⟩ := List.append_inj' h rfl
        have e1 := ih (a / 10) (by omega) h1
        have e2 := digc_inj (Nat.mod_lt _ (by omega)) (Nat.mod_lt _ (by omega)) (by simpa using h2)
        omega

/-! lists by name: what stands where behind a put or a delete -/
section
variable {α : Type} {nm : α → ByteArray}
theorem get_iff {l : List α} (h : Rise nm l) {n : ByteArray} {x : α} : getG nm n l = some x ↔ x ∈ l ∧ nm x = n :=
  ⟨getG_some, fun ⟨h1, h2⟩ => by rw [← h2]; exact getG_of_mem h h1⟩
theorem get_no {l : List α} {n : ByteArray} : getG nm n l = none ↔ ∀ y ∈ l, nm y ≠ n :=
  ⟨getG_ne, fun h => List.find?_eq_none.2 fun y hy => by simpa using h y hy⟩
theorem get_same {l l' : List α} (_h : Rise nm l) (h' : Rise nm l') {n : ByteArray} (he : ∀ x, nm x = n → (x ∈ l ↔ x ∈ l')) : getG nm n l = getG nm n l' := by
  cases hg : getG nm n l with
  | some x =>
    obtain ⟨h1, h2⟩ := getG_some hg
    exact ((get_iff h').2 ⟨(he x h2).1 h1, h2⟩).symm
  | none =>
    refine (get_no.2 fun y hy e => ?_).symm
    exact get_no.1 hg y ((he y e).2 hy) e
theorem get_del_ne {l : List α} (h : Rise nm l) {n m : ByteArray} (hne : n ≠ m) : getG nm n (delG nm m l) = getG nm n l :=
  get_same (delG_rise h m) h fun x hx => by
    rw [delG_mem]
    exact ⟨fun h => h.1, fun h => ⟨h, fun e => hne (hx.symm.trans e)⟩⟩
theorem get_del_eq {l : List α} {n : ByteArray} : getG nm n (delG nm n l) = none := get_no.2 delG_ne
theorem get_put_eq {l : List α} (h : Rise nm l) (x : α) : getG nm (nm x) (putG nm x l) = some x :=
  (get_iff (putG_rise h x)).2 ⟨insG_mem.2 (.inl rfl), rfl⟩
theorem get_put_ne {l : List α} (h : Rise nm l) {x : α} {n : ByteArray} (hne : n ≠ nm x) : getG nm n (putG nm x l) = getG nm n l :=
  get_same (putG_rise h x) h fun y hy => by
    unfold putG
    rw [insG_mem, delG_mem]
    constructor
    · rintro (rfl | h)
      · exact absurd hy.symm hne
      · exact h.1
    · intro h
      exact .inr ⟨h, fun e => hne (hy.symm.trans e)⟩
end

/-! generations -/
def genName (base : ByteArray) (i : Int) : ByteArray := if i ≤ 0 then base else base ++ (⟨#[46]⟩ : ByteArray) ++ str (dec i)
theorem genName_zero {base : ByteArray} {i : Int} (h : i ≤ 0) : genName base i = base := by unfold genName; rw [if_pos h]
theorem genName_pos {base : ByteArray} {i : Int} (h : 0 < i) : genName base i = base ++ (⟨#[46]⟩ : ByteArray) ++ str (dec i) := by unfold genName; rw [if_neg (by omega)]
theorem cat_list (a b : ByteArray) : (a ++ b).data.toList = a.data.toList ++ b.data.toList := by simp
theorem genName_list {base : ByteArray} {i : Int} (h : 0 < i) : (genName base i).data.toList = base.data.toList ++ 46 :: decN i.toNat := by
  rw [genName_pos h, cat_list, cat_list, dec_pos (by omega), List.append_assoc]; rfl
theorem genName_inj {base : ByteArray} {i k : Int} : genName base i = genName base k ↔ max 0 i = max 0 k := by
  constructor
  · intro h
    have hl : (genName base i).data.toList = (genName base k).data.toList := by rw [h]
    by_cases hi : i ≤ 0
    · by_cases hk : k ≤ 0
      · omega
      · rw [genName_zero hi, genName_list (by omega)] at hl
        have := congrArg List.length hl
        simp at this
    · by_cases hk : k ≤ 0
      · rw [genName_zero hk, genName_list (by omega)] at hl
        have := congrArg List.length hl
        simp at this
      · rw [genName_list (by omega), genName_list (by omega)] at hl
        have h1 := List.append_cancel_left hl
        injection h1 with _ h1
        have := decN_inj h1
        omega
  · intro h
    by_cases hi : i ≤ 0
    · rw [genName_zero hi, genName_zero (by omega)]
    · have : i = k := by omega
      rw [this]
theorem genName_ne {base : ByteArray} {i k : Nat} (h : i ≠ k) : genName base i ≠ genName base k := fun e => by
  have := genName_inj.1 e
  omega
theorem genName_size {base : ByteArray} {i : Int} (h : i ≤ 9223372036854775807) : (genName base i).size ≤ base.size + 20 := by
  have e : ∀ b : ByteArray, b.size = b.data.toList.length := fun b => by simp
  by_cases hi : i ≤ 0
  · rw [genName_zero hi]; omega
  · rw [e, genName_list (by omega), List.length_append, List.length_cons, ← e base]
    have := decN_le (n := i.toNat) (by omega)
    omega

def heldP (n : Int) : Nat := (max 1 (min n 16)).toNat
theorem heldP_le (n : Int) : 1 ≤ heldP n ∧ heldP n ≤ 16 := by unfold heldP; omega
/-- k-1, .., 0 -/
def downs (k : Nat) : List Nat := (List.range k).reverse
theorem downs_succ (k : Nat) : downs (k + 1) = k :: downs k := by unfold downs; rw [List.range_succ, List.reverse_append]; rfl
def genF (l : List SFile) (base : ByteArray) (i : Nat) : Option SFile := getG SFile.name (genName base i) l
def namesP (l : List SFile) (base : ByteArray) (k : Nat) : List ByteArray := (downs k).filterMap fun i => (genF l base i).map fun _ => genName base i
def allP (l : List SFile) (base : ByteArray) (k : Nat) : List ByteArray := (downs k).filterMap fun i => (genF l base i).map SFile.data
theorem namesP_succ (l : List SFile) (base : ByteArray) (k : Nat) : namesP l base (k + 1) = (match genF l base k with | some _ => [genName base k] | none => []) ++ namesP l base k := by
  unfold namesP
  rw [downs_succ]
  cases hg : genF l base k with
  | none => rw [List.filterMap_cons_none (by rw [hg]; rfl)]; rfl
  | some f => rw [List.filterMap_cons_some (by rw [hg]; rfl)]; rfl
theorem allP_succ (l : List SFile) (base : ByteArray) (k : Nat) : allP l base (k + 1) = (match genF l base k with | some f => [f.data] | none => []) ++ allP l base k := by
  unfold allP
  rw [downs_succ]
  cases hg : genF l base k with
  | none => rw [List.filterMap_cons_none (by rw [hg]; rfl)]; rfl
  | some f => rw [List.filterMap_cons_some (by rw [hg]; rfl)]; rfl
theorem allP_len (l : List SFile) (base : ByteArray) (k : Nat) : (allP l base k).length ≤ k := by
  unfold allP
  refine Nat.le_trans (List.length_filterMap_le _ _) ?_
  unfold downs; simp
theorem namesP_len (l : List SFile) (base : ByteArray) (k : Nat) : (namesP l base k).length ≤ k := by
  unfold namesP
  refine Nat.le_trans (List.length_filterMap_le _ _) ?_
  unfold downs; simp
/-- what the names tell is what all tell -/
theorem names_all (l : List SFile) (base : ByteArray) (k : Nat) : (namesP l base k).map (fun nm => match getG SFile.name nm l with | some f => f.data | none => ⟨#[]⟩) = allP l base k := by
  induction k with
  | zero => rfl
  | succ k ih =>
    rw [namesP_succ, allP_succ, List.map_append, ih]
    congr 1
    cases hg : genF l base k with
    | none => rfl
    | some f => unfold genF at hg; simp only [List.map_cons, List.map_nil, hg]
theorem all_congr {l l' : List SFile} {base : ByteArray} : ∀ {k : Nat}, (∀ i, i < k → (genF l base i).map SFile.data = (genF l' base i).map SFile.data) → allP l base k = allP l' base k
  | 0, _ => rfl
  | k + 1, h => by
    have ih := all_congr (k := k) fun i hi => h i (by omega)
    have h1 := h k (by omega)
    rw [allP_succ, allP_succ, ih]
    congr 1
    cases hg : genF l base k with
    | none => rw [hg] at h1; cases hg' : genF l' base k with
      | none => rfl
      | some f => rw [hg'] at h1; cases h1
    | some f => rw [hg] at h1; cases hg' : genF l' base k with
      | none => rw [hg'] at h1; cases h1
      | some f' => rw [hg'] at h1; simp at h1; simp [h1]

/-! a turn -/
def turnL (base : ByteArray) : List Nat → Nat → List SFile → Int × Nat × List SFile
  | [], bad, l => (0, bad, l)
  | i :: r, bad, l => match genF l base i with
    | none => turnL base r bad l
    | some _ => if (renameP bad l (genName base i) (genName base (i + 1 : Nat))).1 ≠ 0 then renameP bad l (genName base i) (genName base (i + 1 : Nat)) else turnL base r (renameP bad l (genName base i) (genName base (i + 1 : Nat))).2.1 (renameP bad l (genName base i) (genName base (i + 1 : Nat))).2.2
def goneP (base : ByteArray) (j bad : Nat) (l : List SFile) : Int × Nat × List SFile := match genF l base j with
  | none => (0, bad, l)
  | some _ => removeP bad l (genName base j)
/-- of j + 1 generations -/
def turnP (base : ByteArray) (j bad : Nat) (l : List SFile) : Int × Nat × List SFile :=
  if (goneP base j bad l).1 ≠ 0 then goneP base j bad l else turnL base (downs j) (goneP base j bad l).2.1 (goneP base j bad l).2.2

section
variable {base : ByteArray} {l : List SFile} {bad : Nat}
theorem remove_ok {nm : ByteArray} {f : SFile} (hn : namedP nm = true) (hg : getG SFile.name nm l = some f) : removeP 0 l nm = (0, 0, delG SFile.name nm l) := by
  have hb : beginC 0 nm = (0, 0) := by unfold beginC; rw [if_pos hn, if_neg (by omega)]
  unfold removeP
  rw [hb, if_neg (by simp), hg]
theorem rename_ok {nm nt : ByteArray} {f : SFile} (hn : namedP nm = true) (ht : namedP nt = true) (hg : getG SFile.name nm l = some f) : renameP 0 l nm nt = (0, 0, putG SFile.name ⟨nt, f.data, f.sure⟩ (delG SFile.name nm l)) := by
  have hb : beginC 0 nm = (0, 0) := by unfold beginC; rw [if_pos hn, if_neg (by omega)]
  unfold renameP
  rw [hb, if_neg (by simp), if_neg (by rw [ht]; simp), hg]
theorem remove_io {nm : ByteArray} (hn : namedP nm = true) (hb : 0 < bad) : removeP bad l nm = (12, bad - 1, l) := by
  have hb : beginC bad nm = (12, bad - 1) := by unfold beginC; rw [if_pos hn, if_pos hb]
  unfold removeP
  rw [hb, if_pos (by simp)]
theorem rename_io {nm nt : ByteArray} (hn : namedP nm = true) (hb : 0 < bad) : renameP bad l nm nt = (12, bad - 1, l) := by
  have hb : beginC bad nm = (12, bad - 1) := by unfold beginC; rw [if_pos hn, if_pos hb]
  unfold renameP
  rw [hb, if_pos (by simp)]
/-- a generation's file, but for its name -/
def genV (l : List SFile) (base : ByteArray) (i : Nat) : Option (ByteArray × Nat) := (genF l base i).map fun f => (f.data, f.sure)
theorem genV_none {i : Nat} : genV l base i = none ↔ genF l base i = none := by unfold genV; cases genF l base i <;> simp
theorem turnL_ok (hnm : ∀ i : Nat, i ≤ 16 → namedP (genName base i) = true) : ∀ (j : Nat) (l : List SFile), j ≤ 16 → Rise SFile.name l → genF l base j = none →
    (turnL base (downs j) 0 l).1 = 0 ∧ (turnL base (downs j) 0 l).2.1 = 0 ∧ Rise SFile.name (turnL base (downs j) 0 l).2.2 ∧
      (∀ i, i < j → genV (turnL base (downs j) 0 l).2.2 base (i + 1) = genV l base i) ∧ genV (turnL base (downs j) 0 l).2.2 base 0 = none ∧
      (∀ nm, (∀ i : Nat, i ≤ j → nm ≠ genName base i) → getG SFile.name nm (turnL base (downs j) 0 l).2.2 = getG SFile.name nm l)
  | 0, l, _, hr, h0 => ⟨rfl, rfl, hr, fun i hi => by omega, genV_none.2 h0, fun _ _ => rfl⟩
  | j + 1, l, hj, hr, h0 => by
    rw [downs_succ]
    unfold turnL
    cases hg : genF l base j with
    | none =>
      obtain ⟨a1, a2, a3, a4, a5, a6⟩ := turnL_ok hnm j l (by omega) hr hg
      refine ⟨a1, a2, a3, fun i hi => ?_, a5, fun nm hh => a6 nm fun i hi => hh i (by omega)⟩
      by_cases e : i = j
      · subst e
        rw [genV_none.2 hg, genV_none]
        unfold genF
        rw [a6 _ (fun k hk => genName_ne (by omega))]
        exact h0
      · exact a4 i (by omega)
    | some f =>
      have hfn := (getG_some hg).2
      have hro := rename_ok (hnm j (by omega)) (hnm (j + 1) (by omega)) hg
      simp only [hro]
      rw [if_neg (by simp)]
      obtain ⟨l1, hl1⟩ : ∃ l1, l1 = putG SFile.name ⟨genName base (j + 1 : Nat), f.data, f.sure⟩ (delG SFile.name (genName base j) l) := ⟨_, rfl⟩
      rw [← hl1]
      have hr1 : Rise SFile.name l1 := by rw [hl1]; exact putG_rise (delG_rise hr _) _
      have g1 : ∀ nm, nm ≠ genName base (j + 1 : Nat) → nm ≠ genName base j → getG SFile.name nm l1 = getG SFile.name nm l := fun nm h1 h2 => by
        rw [hl1, get_put_ne (delG_rise hr _) h1, get_del_ne hr h2]
      have g2 : genF l1 base j = none := by
        unfold genF
        rw [hl1, get_put_ne (delG_rise hr _) (genName_ne (i := j) (k := j + 1) (by omega)), get_del_eq]
      have g3 : getG SFile.name (genName base (j + 1 : Nat)) l1 = some ⟨genName base (j + 1 : Nat), f.data, f.sure⟩ := by
        rw [hl1]
        exact get_put_eq (delG_rise hr _) ⟨genName base (j + 1 : Nat), f.data, f.sure⟩
      obtain ⟨a1, a2, a3, a4, a5, a6⟩ := turnL_ok hnm j l1 (by omega) hr1 g2
      refine ⟨a1, a2, a3, fun i hi => ?_, a5, fun nm hh => ?_⟩
      · by_cases e : i = j
        · subst e
          unfold genV genF
          rw [a6 _ (fun k hk => genName_ne (by omega)), g3]
          unfold genF at hg
          rw [hg]
          rfl
        · rw [a4 i (by omega)]
          unfold genV genF
          rw [g1 _ (genName_ne (by omega)) (genName_ne (by omega))]
      · rw [a6 nm fun i hi => hh i (by omega)]
        exact g1 nm (hh _ (by omega)) (hh _ (by omega))
/-- no call fails: each is one older, the oldest gone -/
theorem turn_ok (hnm : ∀ i : Nat, i ≤ 16 → namedP (genName base i) = true) (j : Nat) (hj : j ≤ 16) (hr : Rise SFile.name l) :
    (turnP base j 0 l).1 = 0 ∧ (turnP base j 0 l).2.1 = 0 ∧ Rise SFile.name (turnP base j 0 l).2.2 ∧
      (∀ i, i < j → genV (turnP base j 0 l).2.2 base (i + 1) = genV l base i) ∧ genV (turnP base j 0 l).2.2 base 0 = none ∧
      (∀ nm, (∀ i : Nat, i ≤ j → nm ≠ genName base i) → getG SFile.name nm (turnP base j 0 l).2.2 = getG SFile.name nm l) := by
  have hgone : ∃ l1, goneP base j 0 l = (0, 0, l1) ∧ Rise SFile.name l1 ∧ genF l1 base j = none ∧ ∀ nm, nm ≠ genName base j → getG SFile.name nm l1 = getG SFile.name nm l := by
    unfold goneP
    cases hg : genF l base j with
    | none => exact ⟨l, rfl, hr, hg, fun _ _ => rfl⟩
    | some f => exact ⟨_, remove_ok (hnm j hj) hg, delG_rise hr _, get_del_eq, fun nm h => get_del_ne hr h⟩
  obtain ⟨l1, e1, hr1, g1, g2⟩ := hgone
  unfold turnP
  rw [e1, if_neg (by simp)]
  obtain ⟨a1, a2, a3, a4, a5, a6⟩ := turnL_ok hnm j l1 hj hr1 g1
  refine ⟨a1, a2, a3, fun i hi => ?_, a5, fun nm hh => ?_⟩
  · rw [a4 i hi]
    unfold genV genF
    rw [g2 _ (genName_ne (by omega))]
  · rw [a6 nm hh, g2 nm (hh j (by omega))]
theorem turnL_io (hnm : ∀ i : Nat, i ≤ 16 → namedP (genName base i) = true) (hb : 0 < bad) : ∀ (j : Nat), j ≤ 16 →
    (allP l base j = [] ∧ turnL base (downs j) bad l = (0, bad, l)) ∨ (allP l base j ≠ [] ∧ turnL base (downs j) bad l = (12, bad - 1, l))
  | 0, _ => .inl ⟨rfl, rfl⟩
  | j + 1, hj => by
    rw [downs_succ, allP_succ]
    unfold turnL
    cases hg : genF l base j with
    | none => exact turnL_io hnm hb j (by omega)
    | some f =>
      simp only [rename_io (hnm j (by omega)) hb]
      rw [if_pos (by simp)]
      exact .inr ⟨by simp, rfl⟩
/-- the first call fails: nothing is done -/
theorem turn_io (hnm : ∀ i : Nat, i ≤ 16 → namedP (genName base i) = true) (hb : 0 < bad) (j : Nat) (hj : j ≤ 16) :
    (allP l base (j + 1) = [] ∧ turnP base j bad l = (0, bad, l)) ∨ (allP l base (j + 1) ≠ [] ∧ turnP base j bad l = (12, bad - 1, l)) := by
  rw [allP_succ]
  unfold turnP goneP
  cases hg : genF l base j with
  | none =>
    simp only
    rw [if_neg (by simp)]
    exact turnL_io hnm hb j hj
  | some f =>
    simp only [remove_io (hnm j hj) hb]
    rw [if_pos (by simp)]
    exact .inr ⟨by simp, rfl⟩
/-- all, behind a turn: the oldest is gone -/
theorem all_shift {l' : List SFile} (h0 : genV l' base 0 = none) : ∀ {j : Nat}, (∀ i, i < j → genV l' base (i + 1) = genV l base i) → allP l' base (j + 1) = allP l base j
  | 0, _ => by
    have := genV_none.1 h0
    rw [allP_succ, this]; rfl
  | j + 1, h => by
    rw [allP_succ, all_shift h0 (j := j) fun i hi => h i (by omega), allP_succ]
    have hh := h j (by omega)
    congr 1
    unfold genV at hh
    cases hg : genF l' base (j + 1) with
    | none => rw [hg] at hh; cases hg2 : genF l base j with
      | none => rfl
      | some f => rw [hg2] at hh; cases hh
    | some f' => rw [hg] at hh; cases hg2 : genF l base j with
      | none => rw [hg2] at hh; cases hh
      | some f =>
        rw [hg2] at hh
        simp at hh
        simp [hh.1]
end
end Go.Proofs.YtdbnalocmjkncaaGreatDoor
