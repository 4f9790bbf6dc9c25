/-
  A region that draws its order, by what each of its operations yields: one step an operation, whatever order is drawn. No program in sight.
-/
import Derived.Test.YtkmpdobojgiegaaGreatDoorQGround1
import Derived.RegionTactic
import Derived.Deep.RegionHeld
namespace Go.Proofs.YtkmpdobojgiegaaGreatDoor
open Go.RowKit

/-- what stands in a frame's slots -/
def gx (a : Act) : Nat → Value := fun t => a.tmps[t]?.getD undef
def sl (xs : Nat → Value) : Option Tmp → Value
  | some t => xs t
  | none => undef
theorem gx_put {a : Act} {d : Nat} {v : Value} (h : d < a.tmps.size) (t : Nat) : gx (a.put (some d) v) t = if t = d then v else gx a t := by
  unfold gx Act.put
  simp only [Array.getElem?_setIfInBounds]
  by_cases e : t = d
  · subst e; simp [h]
  · rw [if_neg (Ne.symm e), if_neg e]
theorem put_size (a : Act) (d : Option Tmp) (v : Value) : (a.put d v).tmps.size = a.tmps.size := by cases d <;> simp [Act.put]
theorem put_defers (a : Act) (d : Option Tmp) (v : Value) : (a.put d v).defers = a.defers := by cases d <;> rfl
/-- what is seen of a value that is put -/
def seen (d : Option Tmp) (v : Value) : Value := match d with
  | some _ => v
  | none => undef
def depsL (o : Oper) : List Nat := (o.after.toList.filter (Region.binds .any)).map (·.on)
def dstAt (ops : Array Oper) (k : Nat) : Option Tmp := (ops[k]?).bind (·.dst)
def AllDeps (ops : Array Oper) (Pk : Nat → Value → World → Prop) (xs : Nat → Value) (w : World) : List Nat → Prop
  | [] => True
  | k :: ks => Pk k (sl xs (dstAt ops k)) w ∧ AllDeps ops Pk xs w ks
/-- in the text's order each waits for elder ones; no two write one slot; the slots are there -/
def regChk (n : Nat) (ops : Array Oper) : Bool :=
  (List.range ops.size).all fun i => ((ops[i]?).map fun o => (depsL o).all (fun k => decide (k < i)) && (match o.dst with
    | some d => decide (d < n) && (List.range i).all fun j => dstAt ops j != some d
    | none => true)).getD true
def noDst (ops : Array Oper) (t : Nat) : Bool := ops.all fun o => o.dst != some t
def Step (P : Program) (ops : Array Oper) (Q : Exit → Act → World → Prop) (n : Nat) (dfs : List Deferred) (R : World → World → Prop) (Pk : Nat → Value → World → Prop) (xs0 : Nat → Value) (w0 : World) (i : Nat) (o : Oper) : Prop :=
  ∀ (a : Act) (w : World), a.tmps.size = n → a.defers = dfs → R w0 w → (∀ t, noDst ops t = true → gx a t = xs0 t) → AllDeps ops Pk (gx a) w (depsL o) → ∀ K : Act → World → Prop, (∀ v w', R w w' → Pk i (seen o.dst v) w' → K (a.put o.dst v) w') →
    if Region.wanted o (yielded ops a.tmps) = true then Oper.wp P o a w K Q else K (a.put o.dst undef) w
def StepsFrom (P : Program) (ops : Array Oper) (Q : Exit → Act → World → Prop) (n : Nat) (dfs : List Deferred) (R : World → World → Prop) (Pk : Nat → Value → World → Prop) (xs0 : Nat → Value) (w0 : World) (k : Nat) : Prop :=
  ∀ i o, k ≤ i → ops[i]? = some o → Step P ops Q n dfs R Pk xs0 w0 i o

section
variable {P : Program} {ops : Array Oper} {Q : Exit → Act → World → Prop} {n : Nat} {dfs : List Deferred} {R : World → World → Prop} {Pk : Nat → Value → World → Prop} {xs0 : Nat → Value} {w0 : World}
theorem StepsFrom.cons {k : Nat} (o : Oper) (ho : ops[k]? = some o) (h : Step P ops Q n dfs R Pk xs0 w0 k o) (hs : StepsFrom P ops Q n dfs R Pk xs0 w0 (k + 1)) : StepsFrom P ops Q n dfs R Pk xs0 w0 k := fun i o' hi ho' => by
  by_cases e : i = k
  · subst e
    rw [ho] at ho'
    injection ho' with ho'
    subst ho'
    exact h
  · exact hs i o' (by omega) ho'
theorem StepsFrom.nil {k : Nat} (h : ops.size ≤ k) : StepsFrom P ops Q n dfs R Pk xs0 w0 k := fun i o hi ho => by
  have := (Array.getElem?_eq_some_iff.1 ho).1
  omega
theorem regChk_of (h : regChk n ops = true) {i : Nat} {o : Oper} (ho : ops[i]? = some o) : (∀ k ∈ depsL o, k < i) ∧ ∀ d, o.dst = some d → d < n ∧ ∀ j, j < i → dstAt ops j ≠ some d := by
  unfold regChk at h
  have hi := (Array.getElem?_eq_some_iff.1 ho).1
  have := List.all_eq_true.1 h i (List.mem_range.2 hi)
  rw [ho] at this
  simp only [Option.map_some, Option.getD_some, Bool.and_eq_true, List.all_eq_true, decide_eq_true_eq] at this
  refine ⟨this.1, fun d hd => ?_⟩
  rw [hd] at this
  simp only [Bool.and_eq_true, decide_eq_true_eq, List.all_eq_true, List.mem_range, bne_iff_ne] at this
  exact this.2
theorem dst_ne (h : regChk n ops = true) {i j : Nat} {o o' : Oper} (ho : ops[i]? = some o) (ho' : ops[j]? = some o') (hne : i ≠ j) (d : Nat) (hd : o.dst = some d) : o'.dst ≠ some d := fun e => by
  rcases Nat.lt_or_gt_of_ne hne with hlt | hlt
  · exact ((regChk_of h ho').2 d e).2 i hlt (by unfold dstAt; rw [ho]; exact hd)
  · exact ((regChk_of h ho).2 d hd).2 j hlt (by unfold dstAt; rw [ho']; exact e)
theorem sl_put_ne {a : Act} {d d' : Option Tmp} {v : Value} (hn : ∀ t, d = some t → t < a.tmps.size) (h : ∀ t, d = some t → d' ≠ some t) : sl (gx (a.put d v)) d' = sl (gx a) d' := by
  cases d with
  | none => rfl
  | some t =>
    cases d' with
    | none => rfl
    | some t' =>
      show gx (a.put (some t) v) t' = gx a t'
      rw [gx_put (hn t rfl), if_neg]
      intro e
      subst e
      exact h _ rfl rfl
/-- how many have not come up -/
def todoN (listed : Array Bool) : Nat → Nat
  | 0 => 0
  | k + 1 => todoN listed k + (if listed.getD k true = false then 1 else 0)
theorem todo_le (listed listed' : Array Bool) (h : ∀ i, listed'.getD i true = false → listed.getD i true = false) : ∀ m, todoN listed' m ≤ todoN listed m
  | 0 => Nat.le_refl _
  | m + 1 => by
    have := todo_le listed listed' h m
    rw [todoN, todoN]
    by_cases e : listed'.getD m true = false
    · rw [if_pos e, if_pos (h m e)]; omega
    · rw [if_neg e]; omega
theorem todo_lt (listed listed' : Array Bool) (h : ∀ i, listed'.getD i true = false → listed.getD i true = false) (k : Nat) (h1 : listed.getD k true = false) (h2 : listed'.getD k true ≠ false) : ∀ m, k < m → todoN listed' m < todoN listed m
  | 0, hk => by omega
  | m + 1, hk => by
    rw [todoN, todoN]
    have := todo_le listed listed' h m
    by_cases e : k = m
    · subst e
      rw [if_neg h2, if_pos h1]; omega
    · have := todo_lt listed listed' h k h1 h2 m (by omega)
      by_cases e : listed'.getD m true = false
      · rw [if_pos e, if_pos (h m e)]; omega
      · rw [if_neg e]; omega
theorem todo_zero (listed : Array Bool) : ∀ m, todoN listed m = 0 → ∀ i, i < m → listed.getD i true ≠ false
  | 0, _, i, hi => by omega
  | m + 1, h, i, hi => by
    rw [todoN] at h
    by_cases e : i = m
    · subst e; intro hh; rw [if_pos hh] at h; omega
    · exact todo_zero listed m (by omega) i (by omega)
theorem todo_le_m (listed : Array Bool) : ∀ m, todoN listed m ≤ m
  | 0 => Nat.le_refl _
  | m + 1 => by have := todo_le_m listed m; rw [todoN]; split <;> omega
theorem getD_set (listed : Array Bool) (i j : Nat) (b : Bool) : (listed.setIfInBounds i true).getD j b = if i = j ∧ i < listed.size then true else listed.getD j b := by
  simp only [Array.getD_eq_getD_getElem?, Array.getElem?_setIfInBounds]
  by_cases h : i = j
  · subst h
    by_cases h2 : i < listed.size
    · simp [h2]
    · simp [h2]
  · simp [h]
theorem allDeps_of {xs : Nat → Value} {w : World} : ∀ (l : List Nat), (∀ k ∈ l, Pk k (sl xs (dstAt ops k)) w) → AllDeps ops Pk xs w l
  | [], _ => trivial
  | k :: l, h => ⟨h k (by simp), allDeps_of l fun j hj => h j (by simp [hj])⟩
theorem wpAny_specs (hRt : ∀ a b c, R a b → R b c → R a c) (hst : ∀ k v w w', R w w' → Pk k v w → Pk k v w') (hchk : regChk n ops = true)
    (hstep : StepsFrom P ops Q n dfs R Pk xs0 w0 0)
    (hfin : ∀ a w, a.tmps.size = n → a.defers = dfs → R w0 w → (∀ t, noDst ops t = true → gx a t = xs0 t) → (∀ i o, ops[i]? = some o → Pk i (sl (gx a) o.dst) w) → Q .normal a w) :
    ∀ (fuel : Nat) (listed : Array Bool) (a : Act) (w : World), a.tmps.size = n → a.defers = dfs → listed.size = ops.size → todoN listed ops.size ≤ fuel → R w0 w → (∀ t, noDst ops t = true → gx a t = xs0 t) → (∀ i o, ops[i]? = some o → listed.getD i false = true → Pk i (sl (gx a) o.dst) w) →
      wpAny P .any ops Q fuel listed a w := by
  have done : ∀ (listed : Array Bool) (a : Act) (w : World), a.tmps.size = n → a.defers = dfs → listed.size = ops.size → Region.ready .any ops listed = [] → R w0 w → (∀ t, noDst ops t = true → gx a t = xs0 t) → (∀ i o, ops[i]? = some o → listed.getD i false = true → Pk i (sl (gx a) o.dst) w) → Q .normal a w := by
    intro listed a w hn hdf hsz hr hR hf hv
    have all : ∀ i, i < ops.size → listed.getD i false = true := by
      intro i
      induction i using Nat.strongRecOn with
      | ind i ih =>
        intro hi
        by_cases hl : listed.getD i false = true
        · exact hl
        · exfalso
          obtain ⟨o, ho⟩ : ∃ o, ops[i]? = some o := ⟨ops[i], Array.getElem?_eq_getElem hi⟩
          have hin : i ∈ Region.ready .any ops listed := by
            rw [mem_ready]
            refine ⟨?_, o, ho, fun e he hb => ?_⟩
            · have hi2 : i < listed.size := by omega
              simp [Array.getD_eq_getD_getElem?, hi2] at hl ⊢
              exact hl
            · have hk : e.on ∈ depsL o := by
                unfold depsL
                exact List.mem_map.2 ⟨e, List.mem_filter.2 ⟨by simpa using he, hb⟩, rfl⟩
              have := (regChk_of hchk ho).1 _ hk
              exact ih e.on this (by omega)
          rw [hr] at hin
          cases hin
    exact hfin a w hn hdf hR hf fun i o ho => hv i o ho (all i (Array.getElem?_eq_some_iff.1 ho).1)
  intro fuel
  induction fuel with
  | zero =>
    intro listed a w hn hdf hsz ht hR hf hv
    have hr : Region.ready .any ops listed = [] := by
      rw [List.eq_nil_iff_forall_not_mem]
      intro i hi
      obtain ⟨h1, o, ho, -⟩ := mem_ready.1 hi
      exact todo_zero listed ops.size (by omega) i (Array.getElem?_eq_some_iff.1 ho).1 h1
    exact ⟨hr, done listed a w hn hdf hsz hr hR hf hv⟩
  | succ fuel ih =>
    intro listed a w hn hdf hsz ht hR hf hv
    refine ⟨fun hr => done listed a w hn hdf hsz hr hR hf hv, fun i hi => ?_⟩
    obtain ⟨h1, o, ho, hdep⟩ := mem_ready.1 hi
    have hilt := (Array.getElem?_eq_some_iff.1 ho).1
    have hdn : ∀ t, o.dst = some t → t < a.tmps.size := fun t e => by rw [hn]; exact ((regChk_of hchk ho).2 t e).1
    refine wpOp_step ho fun K hK => ?_
    refine hstep i o (Nat.zero_le _) ho a w hn hdf hR hf ?_ K fun v w' hRw hP => hK _ _ ?_
    · apply allDeps_of
      intro k hk
      unfold depsL at hk
      obtain ⟨e, he, rfl⟩ := List.mem_map.1 hk
      obtain ⟨he1, he2⟩ := List.mem_filter.1 he
      have hl := hdep e (by simpa using he1) he2
      have hlt := (regChk_of hchk ho).1 e.on (List.mem_map.2 ⟨e, he, rfl⟩)
      have hok : ops[e.on]? = some ops[e.on] := Array.getElem?_eq_getElem (by omega)
      have := hv e.on _ hok hl
      unfold dstAt
      rw [hok]
      exact this
    · have hmono : ∀ j, (listed.setIfInBounds i true).getD j true = false → listed.getD j true = false := fun j hj => by
        rw [getD_set] at hj
        split at hj
        · cases hj
        · exact hj
      refine ih (listed.setIfInBounds i true) (a.put o.dst v) w' ((put_size _ _ _).trans hn) ((put_defers _ _ _).trans hdf) (by simpa using hsz) ?_ (hRt _ _ _ hR hRw) (fun t htt => ?_) (fun j o' ho' hl => ?_)
      · have := todo_lt listed (listed.setIfInBounds i true) hmono i h1 (by rw [getD_set, if_pos ⟨rfl, by omega⟩]; simp) ops.size hilt
        omega
      · rw [← hf t htt]
        unfold noDst at htt
        have hne := Array.all_eq_true.1 htt i hilt
        have hoe : ops[i] = o := (Array.getElem?_eq_some_iff.1 ho).2
        rw [hoe, bne_iff_ne] at hne
        cases hd : o.dst with
        | none => rfl
        | some d =>
          rw [gx_put (hdn d hd), if_neg]
          rintro rfl
          exact hne hd
      · by_cases e : i = j
        · subst e
          rw [ho] at ho'
          injection ho' with ho'
          subst ho'
          cases hd : o.dst with
          | none => rw [hd] at hP; exact hP
          | some d =>
            show Pk i (gx (a.put (some d) v) d) w'
            rw [gx_put (hdn d hd), if_pos rfl]
            rw [hd] at hP
            exact hP
        · rw [sl_put_ne hdn (fun t ht e2 => dst_ne hchk ho ho' e t ht e2)]
          rw [getD_set, if_neg (by simp [e])] at hl
          exact hst j _ w w' hRw (hv j o' ho' hl)
/-- the step of an operation that nothing guards -/
theorem Step.plain {i : Nat} {o : Oper} (hg : o.guard = none) (h : ∀ (Q : Exit → Act → World → Prop) (a : Act) (w : World), R w0 w → Hid (∀ t, noDst ops t = true → gx a t = xs0 t) → AllDeps ops Pk (gx a) w (depsL o) → ∀ K : Act → World → Prop, Shut (∀ v w', R w w' → Pk i (seen o.dst v) w' → K (a.put o.dst v) w') → Oper.wp P o a w K Q) :
    Step P ops Q n dfs R Pk xs0 w0 i o := fun a w _ _ hR hf hd K hK => by
  rw [if_pos (by unfold Region.wanted; rw [hg])]
  exact h Q a w hR (Lib.hid hf) hd K hK
/-- the steps, one by one -/
def StepsL (P : Program) (ops : Array Oper) (Q : Exit → Act → World → Prop) (n : Nat) (dfs : List Deferred) (R : World → World → Prop) (Pk : Nat → Value → World → Prop) (xs0 : Nat → Value) (w0 : World) : Nat → List Oper → Prop
  | _, [] => True
  | k, o :: l => Step P ops Q n dfs R Pk xs0 w0 k o ∧ StepsL P ops Q n dfs R Pk xs0 w0 (k + 1) l
theorem AllDeps.get {xs : Nat → Value} {w : World} : ∀ {l : List Nat} (_ : AllDeps ops Pk xs w l) (k : Nat) (_ : l.contains k = true), Pk k (sl xs (dstAt ops k)) w
  | [], _, k, hk => by simp at hk
  | j :: l, h, k, hk => by
    rw [List.contains_cons, Bool.or_eq_true, beq_iff_eq] at hk
    rcases hk with rfl | hk
    · exact h.1
    · exact AllDeps.get h.2 k hk
theorem StepsL.nil {k : Nat} : StepsL P ops Q n dfs R Pk xs0 w0 k [] := trivial
theorem StepsL.plain {k : Nat} {o : Oper} {l : List Oper} (hg : o.guard = none) (h : ∀ (Q : Exit → Act → World → Prop) (a : Act) (w : World), R w0 w → Hid (∀ t, noDst ops t = true → gx a t = xs0 t) → AllDeps ops Pk (gx a) w (depsL o) → ∀ K : Act → World → Prop, Shut (∀ v w', R w w' → Pk k (seen o.dst v) w' → K (a.put o.dst v) w') → Oper.wp P o a w K Q)
    (hs : StepsL P ops Q n dfs R Pk xs0 w0 (k + 1) l) : StepsL P ops Q n dfs R Pk xs0 w0 k (o :: l) := ⟨Step.plain hg h, hs⟩
theorem StepsL.at_ : ∀ (l : List Oper) (k : Nat), StepsL P ops Q n dfs R Pk xs0 w0 k l → ∀ i o, l[i]? = some o → Step P ops Q n dfs R Pk xs0 w0 (k + i) o
  | [], k, _, i, o, ho => by simp at ho
  | x :: l, k, h, 0, o, ho => by simp at ho; subst ho; exact h.1
  | x :: l, k, h, i + 1, o, ho => by
    rw [List.getElem?_cons_succ] at ho
    have := StepsL.at_ l (k + 1) h.2 i o ho
    rwa [show k + 1 + i = k + (i + 1) by omega] at this
theorem StepsL.from_ {l : List Oper} (hl : ops = l.toArray) (h : StepsL P ops Q n dfs R Pk xs0 w0 0 l) : StepsFrom P ops Q n dfs R Pk xs0 w0 0 := fun i o _ ho => by
  rw [hl, List.getElem?_toArray] at ho
  have := StepsL.at_ l 0 h i o ho
  rwa [Nat.zero_add] at this
/-- **a region by what its operations yield** -/
theorem wp_region_specs {id : Nat} {a : Act} (hm : P.follows .mixedOrders = true) (hn : a.tmps.size = n) (hdf : a.defers = dfs) (hx : gx a = xs0) (hR : R w0 w0.drew) (hRt : ∀ a b c, R a b → R b c → R a c) (hst : ∀ k v w w', R w w' → Pk k v w → Pk k v w') (hchk : regChk n ops = true)
    {l : List Oper} (hl : ops = l.toArray) (hstep : StepsL P ops Q n dfs R Pk xs0 w0 0 l)
    (hfin : ∀ a w, a.tmps.size = n → a.defers = dfs → R w0 w → (∀ t, noDst ops t = true → gx a t = xs0 t) → (∀ i o, ops[i]? = some o → Pk i (sl (gx a) o.dst) w) → Q .normal a w) : (Code.region id ops true).wp P Q a w0 := by
  subst hx
  refine wp_region_any hm ?_
  refine wpAny_specs hRt hst hchk (StepsL.from_ hl hstep) hfin _ _ _ _ hn hdf (by simp) (Nat.le_trans (todo_le_m _ _) (Nat.le_refl _)) hR (fun _ _ => rfl) (fun i o ho hl => ?_)
  simp [Array.getD_eq_getD_getElem?, Array.getElem?_replicate] at hl
  split at hl <;> simp at hl
end
end Go.Proofs.YtkmpdobojgiegaaGreatDoor
