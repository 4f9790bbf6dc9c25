/-
  What is loaded may be; lines make no difference; what may be can be printed. No program in sight.
-/
import Derived.Test.YtfpajgmdejlaeaaGreatDoorQConfX
namespace Go.Proofs.YtfpajgmdejlaeaaGreatDoor
open Go.RowKit

/-! lines make no difference -/
def okS {α : Type} : (Int × Int) ⊕ α → Option α
  | .inl _ => none
  | .inr a => some a
theorem okS_some {α : Type} {r : (Int × Int) ⊕ α} {a : α} (h : okS r = some a) : r = .inr a := by
  cases r with
  | inl e => cases h
  | inr b => injection h with h; rw [h]
theorem setS_same (cs : List Con) (c : Con) : ∀ (x y : Nd), sameN x y → setS cs c x = setS cs c y
  | .mk k a b l n, .mk k' a' b' l' n', h => by
    rw [sameN] at h
    obtain ⟨rfl, rfl, rfl, -⟩ := h
    rfl
theorem setsS_same (cs : List Con) : ∀ (xs ys : List Nd) (c : Con), sameL xs ys → okS (setsS cs c xs) = okS (setsS cs c ys)
  | [], [], c, _ => rfl
  | x :: xs, y :: ys, c, h => by
    rw [sameL] at h
    rw [setsS, setsS, setS_same cs c x y h.1]
    cases setS cs c y with
    | inl e => rfl
    | inr c' => exact setsS_same cs xs ys c' h.2
  | [], b :: ys, c, h => by rw [sameL] at h; exact h.elim; simp; simp
  | a :: xs, [], c, h => by rw [sameL] at h; exact h.elim; simp; simp
theorem okS_let {α : Type} {e : Int} {n : Int} {r : (Int × Int) ⊕ α} : okS (if e ≠ 0 then .inl (e, n) else r) = if e ≠ 0 then none else okS r := by split <;> rfl
theorem okS_if {α : Type} {p : Prop} [Decidable p] {n : Int × Int} {r : (Int × Int) ⊕ α} : okS (if p then r else .inl n) = if p then okS r else none := by split <;> rfl
theorem okS_if2 {α : Type} {p : Prop} [Decidable p] {n : Int × Int} {r : (Int × Int) ⊕ α} : okS (if p then .inl n else r) = if p then none else okS r := by split <;> rfl
theorem okS_ite {α : Type} {p : Prop} [Decidable p] {a b : (Int × Int) ⊕ α} : okS (if p then a else b) = if p then okS a else okS b := by split <;> rfl
/-- what a statement says, if it may be, out of its parts -/
def stmtO (c : Cf) (u : Con) (k : ByteArray) (a : List ByteArray) (b : Bool) (sub : Con → Option Con) : Option (Cf × Con) :=
  if k = kConsole then
    (if decide (a.length = 1) && (b == true) then
      (if freshS (a.getD 0 ⟨#[]⟩) ((findC c.cons (a.getD 0 ⟨#[]⟩)).isSome) c.cons.length ≠ 0 then none else (sub { u with name := a.getD 0 ⟨#[]⟩ }).map fun y => ({ c with cons := c.cons ++ [y] }, u))
     else none)
  else if k = kGroup then
    (if decide (2 ≤ a.length) && !b then
      (if a.tail.all fitsB then
        (if freshS (a.getD 0 ⟨#[]⟩) (c.grps.any fun g => decide (g.name = a.getD 0 ⟨#[]⟩)) c.grps.length ≠ 0 then none else some ({ c with grps := c.grps ++ [⟨a.getD 0 ⟨#[]⟩, a.tail⟩] }, u))
       else none)
     else none)
  else if k = kUser then
    (if decide (a.length = 2) && (b == false) then
      (if secretB (a.getD 1 ⟨#[]⟩) then
        (if freshS (a.getD 0 ⟨#[]⟩) (c.usrs.any fun g => decide (g.name = a.getD 0 ⟨#[]⟩)) c.usrs.length ≠ 0 then none else some ({ c with usrs := c.usrs ++ [⟨a.getD 0 ⟨#[]⟩, a.getD 1 ⟨#[]⟩⟩] }, u))
       else none)
     else none)
  else if k = kAccess then
    (if decide (a.length = 3) && (b == false) then
      (if fitsB (a.getD 0 ⟨#[]⟩) && fitsB (a.getD 1 ⟨#[]⟩) then
        ((idx (fun s => decide (s = a.getD 2 ⟨#[]⟩)) levels15).bind fun k => if 4096 ≤ c.accs.length then none else some ({ c with accs := c.accs ++ [⟨a.getD 0 ⟨#[]⟩, a.getD 1 ⟨#[]⟩, k⟩] }, u))
       else none)
     else none)
  else if k = kBreak then
    (if decide (a.length = 2) && (b == false) then
      (match numP (a.getD 0 ⟨#[]⟩) 1 9 with
       | .inl _ => none
       | .inr i => if (if (brkP (a.getD 1 ⟨#[]⟩).data.toList).1 = 0 then (if (a.getD 1 ⟨#[]⟩).size = 0 then 3 else 0) else (brkP (a.getD 1 ⟨#[]⟩).data.toList).1) ≠ 0 then none
          else if (c.brks.getD i.toNat ⟨#[]⟩).size ≠ 0 then none else some ({ c with brks := c.brks.set i.toNat (a.getD 1 ⟨#[]⟩) }, u))
     else none)
  else if k = kDefault then
    (if decide (a.length = 0) && (b == true) then (sub u).map fun y => (c, y) else none)
  else none
theorem stmtS_O (c : Cf) (u : Con) (x : Nd) : okS (stmtS c u x) = stmtO c u (keyN x) (argsN x) (blkN x) (fun v => okS (setsS c.cons v (subN x))) := by
  unfold stmtS stmtO
  by_cases h1 : keyN x = kConsole
  · rw [if_pos h1, if_pos h1, okS_if]
    unfold formP argN
    simp only [okS_let]
    cases hq : setsS c.cons { u with name := (argsN x).getD 0 ⟨#[]⟩ } (subN x) with
    | inl e => rfl
    | inr p => rfl
  · rw [if_neg h1, if_neg h1]
    by_cases h2 : keyN x = kGroup
    · rw [if_pos h2, if_pos h2]; simp only [okS_if, okS_let]; rfl
    · rw [if_neg h2, if_neg h2]
      by_cases h3 : keyN x = kUser
      · rw [if_pos h3, if_pos h3]; simp only [okS_if, okS_let]; rfl
      · rw [if_neg h3, if_neg h3]
        by_cases h4 : keyN x = kAccess
        · rw [if_pos h4, if_pos h4]
          unfold formP argN
          simp only [okS_if]
          cases idx (fun s => decide (s = (argsN x).getD 2 ⟨#[]⟩)) levels15 with
          | none => rfl
          | some k => simp only [okS_if2]; rfl
        · rw [if_neg h4, if_neg h4]
          by_cases h5 : keyN x = kBreak
          · rw [if_pos h5, if_pos h5]
            unfold formP argN
            simp only [okS_if]
            cases numP ((argsN x).getD 0 ⟨#[]⟩) 1 9 with
            | inl e => rfl
            | inr i => simp only [okS_if2]; rfl
          · rw [if_neg h5, if_neg h5]
            by_cases h6 : keyN x = kDefault
            · rw [if_pos h6, if_pos h6]
              unfold formP
              simp only [okS_if]
              cases hq : setsS c.cons u (subN x) with
              | inl e => rfl
              | inr p => rfl
            · rw [if_neg h6, if_neg h6]; rfl
theorem stmtS_same (c : Cf) (u : Con) : ∀ (x y : Nd), sameN x y → okS (stmtS c u x) = okS (stmtS c u y)
  | .mk k a b l n, .mk k' a' b' l' n', h => by
    rw [sameN] at h
    obtain ⟨rfl, rfl, rfl, hl⟩ := h
    rw [stmtS_O, stmtS_O]
    show stmtO c u k a b (fun v => okS (setsS c.cons v l)) = stmtO c u k a b (fun v => okS (setsS c.cons v l'))
    congr 1
    funext v
    exact setsS_same c.cons l l' v hl
theorem stmts2_same : ∀ (xs ys : List Nd) (c : Cf) (u : Con), sameL xs ys → okS (stmts2 c u xs) = okS (stmts2 c u ys)
  | [], [], c, u, _ => rfl
  | x :: xs, y :: ys, c, u, h => by
    rw [sameL] at h
    rw [stmts2, stmts2]
    have := stmtS_same c u x y h.1
    cases hq : stmtS c u x with
    | inl e =>
      rw [hq] at this
      cases hr : stmtS c u y with
      | inl e' => rfl
      | inr p => rw [hr] at this; cases this
    | inr p =>
      rw [hq] at this
      rw [okS_some this.symm]
      exact stmts2_same xs ys p.1 p.2 h.2
  | [], b :: ys, c, u, h => by rw [sameL] at h; exact h.elim; simp; simp
  | a :: xs, [], c, u, h => by rw [sameL] at h; exact h.elim; simp; simp
theorem stmtsS_ok {xs : List Nd} {c c' : Cf} {u : Con} : stmtsS c u xs = .inr c' ↔ ∃ v, stmts2 c u xs = .inr (c', v) := by
  rw [stmtsS_2]
  cases stmts2 c u xs with
  | inl e => simp
  | inr p => obtain ⟨a, b⟩ := p; simp
theorem load_of {s : List UInt8} {xs ys : List Nd} {c : Cf} {v : Con} (ht : treeP s = .inr ys) (hs : sameL xs ys) (h : stmts2 Cf.empty usual0 xs = .inr (c, v)) : loadS s = .inr c := by
  unfold loadS
  rw [ht]
  simp only
  rw [stmtsS_ok]
  have := stmts2_same xs ys Cf.empty usual0 hs
  rw [h] at this
  exact ⟨v, okS_some this.symm⟩

/-! what is loaded may be -/
theorem SetG.named {x : Con} (h : SetG x) (n : ByteArray) : SetG { x with name := n } := ⟨h.kind, h.lines, h.bytes, h.gens, h.size, h.base, h.cap, h.jitter, h.init⟩
theorem usual_good : SetG usual0 := by
  constructor <;> decide
theorem oneS_some {x : Nd} {lo hi : Int} {f : Int → Con} {y : Con} (h : oneS x lo hi f = .inr y) : ∃ v, lo ≤ v ∧ v ≤ hi ∧ y = f v := by
  unfold oneS at h
  split at h
  · unfold numP at h
    split at h
    · split at h
      · cases h
      · rename_i hv
        injection h with h
        exact ⟨_, by omega, by omega, h.symm⟩
    · cases h
  · cases h
theorem tick_pos {s : ByteArray} (h : tickB s.data.toList = true) : 0 ≤ tk s := by
  unfold tickB at h
  simp only [Bool.and_eq_true, decide_eq_true_eq] at h
  exact h.1.1
theorem setS_good {cs : List Con} {c y : Con} {x : Nd} (hcs : ∀ z ∈ cs, SetG z) (hc : SetG c) (h : setS cs c x = .inr y) : SetG y ∧ y.name = c.name := by
  by_cases h1 : keyN x = kLines
  · rw [setS_lines_x _ _ _ h1] at h
    obtain ⟨v, h2, h3, rfl⟩ := oneS_some h
    exact ⟨⟨hc.kind, ⟨h2, h3⟩, hc.bytes, hc.gens, hc.size, hc.base, hc.cap, hc.jitter, hc.init⟩, rfl⟩
  by_cases h1 : keyN x = kBytes
  · rw [setS_bytes_x _ _ _ h1] at h
    obtain ⟨v, h2, h3, rfl⟩ := oneS_some h
    exact ⟨⟨hc.kind, hc.lines, ⟨h2, h3⟩, hc.gens, hc.size, hc.base, hc.cap, hc.jitter, hc.init⟩, rfl⟩
  by_cases h1 : keyN x = kGens
  · rw [setS_gens_x _ _ _ h1] at h
    obtain ⟨v, h2, h3, rfl⟩ := oneS_some h
    exact ⟨⟨hc.kind, hc.lines, hc.bytes, ⟨h2, h3⟩, hc.size, hc.base, hc.cap, hc.jitter, hc.init⟩, rfl⟩
  by_cases h1 : keyN x = kSize
  · rw [setS_size_x _ _ _ h1] at h
    obtain ⟨v, h2, h3, rfl⟩ := oneS_some h
    exact ⟨⟨hc.kind, hc.lines, hc.bytes, hc.gens, ⟨h2, h3⟩, hc.base, hc.cap, hc.jitter, hc.init⟩, rfl⟩
  by_cases h1 : keyN x = kRetry
  · rw [setS_retry_x _ _ _ h1] at h
    unfold retryS at h
    split at h
    · rename_i hf
      split at h
      · rename_i ha
        split at h
        · cases h
        · rename_i hv
          injection h with h
          subst h
          have hl : (argsN x).length = 3 := by
            unfold formP at hf
            rw [Bool.and_eq_true, decide_eq_true_eq] at hf
            exact hf.1
          have hm : argN x 2 ∈ argsN x := by
            unfold argN
            rw [List.getD_eq_getElem?_getD, List.getElem?_eq_getElem (by omega)]
            exact List.getElem_mem _
          have := tick_pos (List.all_eq_true.1 ha _ hm)
          exact ⟨⟨hc.kind, hc.lines, hc.bytes, hc.gens, hc.size, ⟨by show 1 ≤ tk (argN x 0); omega, by show tk (argN x 0) ≤ 3600; omega⟩, ⟨by show tk (argN x 0) ≤ tk (argN x 1); omega, by show tk (argN x 1) ≤ 86400; omega⟩, ⟨this, by show tk (argN x 2) ≤ 3600; omega⟩, hc.init⟩, rfl⟩
      · cases h
    · cases h
  by_cases h1 : keyN x = kKind ∨ keyN x = kInit ∨ keyN x = kLike
  · rw [setS_word_x _ _ _ h1] at h
    unfold wordS at h
    split at h
    · split at h
      · cases hq : idx (fun s => decide (s = argN x 0)) kinds15 with
        | none => rw [hq] at h; cases h
        | some k =>
          rw [hq] at h
          injection h with h
          subst h
          obtain ⟨z, hz, -⟩ := idx_some_x hq
          have hk : k < 2 := (List.getElem?_eq_some_iff.1 hz).1
          exact ⟨⟨by show ((k : Int) + 1 = 1 ∨ (k : Int) + 1 = 2); omega, hc.lines, hc.bytes, hc.gens, hc.size, hc.base, hc.cap, hc.jitter, hc.init⟩, rfl⟩
      · split at h
        · split at h
          · cases h
          · rename_i hb
            injection h with h
            subst h
            exact ⟨⟨hc.kind, hc.lines, hc.bytes, hc.gens, hc.size, hc.base, hc.cap, hc.jitter, by show (brkP (argN x 0).data.toList).1 = 0; exact Classical.not_not.1 hb⟩, rfl⟩
        · cases hq : findC cs (argN x 0) with
          | none => rw [hq] at h; cases h
          | some i =>
            rw [hq] at h
            injection h with h
            subst h
            obtain ⟨z, hz, -⟩ := idx_some_x hq
            rw [List.getD_eq_getElem?_getD, hz]
            exact ⟨(hcs z (List.mem_of_getElem? hz)).named _, rfl⟩
    · cases h
  · exfalso
    rw [setS_else_x _ _ _ (by
      intro k hk e
      simp only [List.mem_cons, List.not_mem_nil, or_false] at hk
      rcases hk with rfl | rfl | rfl | rfl | rfl | rfl | rfl | rfl
      · exact absurd e ‹¬ keyN x = kLines›
      · exact absurd e ‹¬ keyN x = kBytes›
      · exact absurd e ‹¬ keyN x = kGens›
      · exact absurd e ‹¬ keyN x = kSize›
      · exact absurd e ‹¬ keyN x = kRetry›
      · exact h1 (.inl e)
      · exact h1 (.inr (.inl e))
      · exact h1 (.inr (.inr e)))] at h
    cases h
theorem setsS_good {cs : List Con} (hcs : ∀ z ∈ cs, SetG z) : ∀ (l : List Nd) (c y : Con), SetG c → setsS cs c l = .inr y → SetG y ∧ y.name = c.name
  | [], c, y, hc, h => by rw [setsS] at h; injection h with h; subst h; exact ⟨hc, rfl⟩
  | x :: l, c, y, hc, h => by
    rw [setsS] at h
    cases hq : setS cs c x with
    | inl e => rw [hq] at h; cases h
    | inr z =>
      rw [hq] at h
      obtain ⟨h1, h2⟩ := setS_good hcs hc hq
      obtain ⟨h3, h4⟩ := setsS_good hcs l z y h1 h
      exact ⟨h3, h4.trans h2⟩
theorem fresh_zero {nm : ByteArray} {there : Bool} {many : Nat} (h : ¬ freshS nm there many ≠ 0) : isB nm = true ∧ there = false ∧ many < 4096 := by
  unfold freshS at h
  split at h
  · rename_i hb
    split at h
    · simp at h
    · rename_i ht
      split at h
      · simp at h
      · exact ⟨hb, by simpa using ht, by omega⟩
  · simp at h
theorem nodup_snoc {l : List ByteArray} {x : ByteArray} (h : l.Nodup) (hx : x ∉ l) : (l ++ [x]).Nodup := by
  rw [List.nodup_append]
  refine ⟨h, by simp, fun a ha b hb e => ?_⟩
  rw [List.mem_singleton] at hb
  subst hb e
  exact hx ha
theorem empty_good : CfG Cf.empty := by
  refine ⟨by simp [Cf.empty], by simp [Cf.empty], by simp [Cf.empty], by simp [Cf.empty], by simp [Cf.empty], by simp [Cf.empty], by simp [Cf.empty], by simp [Cf.empty], by simp [Cf.empty], by simp [Cf.empty], by simp [Cf.empty], by simp [Cf.empty], by rfl, ?_⟩
  intro s hs
  obtain ⟨-, rfl⟩ := List.mem_replicate.1 hs
  exact .inl rfl
theorem any_no {α : Type} {f : α → ByteArray} {l : List α} {nm : ByteArray} (h : (l.any fun g => decide (f g = nm)) = false) : nm ∉ l.map f := by
  intro hm
  obtain ⟨g, hg, he⟩ := List.mem_map.1 hm
  have := List.any_eq_false.1 h g hg
  simp [he] at this
theorem mem_snoc {α : Type} {P : α → Prop} {l : List α} {a : α} (h : ∀ x ∈ l, P x) (ha : P a) : ∀ x ∈ l ++ [a], P x := fun x hx => by
  rcases List.mem_append.1 hx with hx | hx
  · exact h x hx
  · obtain rfl := List.mem_singleton.1 hx; exact ha
theorem stmtS_good {c c' : Cf} {u u' : Con} {x : Nd} (hx : NdG x) (hc : CfG c) (hu : SetG u) (h : stmtS c u x = .inr (c', u')) : CfG c' ∧ SetG u' := by
  have hcs : ∀ z ∈ c.cons, SetG z := fun z hz => (hc.cons z hz).2
  unfold stmtS at h
  split at h
  · split at h
    · simp only at h
      split at h
      · cases h
      · rename_i hf
        obtain ⟨f1, f2, f3⟩ := fresh_zero hf
        cases hq : setsS c.cons { u with name := argN x 0 } (subN x) with
        | inl e => rw [hq] at h; cases h
        | inr y =>
          rw [hq] at h
          injection h with h; injection h with h1 h2; subst h1 h2
          obtain ⟨g1, g2⟩ := setsS_good hcs _ _ _ (hu.named _) hq
          simp only at g2
          have hno : y.name ∉ c.cons.map Con.name := by
            rw [g2]
            intro hm
            obtain ⟨z, hz, he⟩ := List.mem_map.1 hm
            rw [Option.isSome_eq_false_iff, Option.isNone_iff_eq_none] at f2
            have := idx_no f2 z hz
            simp [he] at this
          exact ⟨{ hc with cons := mem_snoc hc.cons ⟨by rw [g2]; exact f1, g1⟩, consN := by show ((c.cons ++ [y]).map Con.name).Nodup; rw [List.map_append]; exact nodup_snoc hc.consN hno, consL := by show (c.cons ++ [y]).length ≤ 4096; rw [List.length_append]; simp only [List.length_cons, List.length_nil]; omega }, hu⟩
    · cases h
  split at h
  · split at h
    · rename_i hlen
      split at h
      · rename_i hfits
        simp only at h
        split at h
        · cases h
        · rename_i hf
          obtain ⟨f1, f2, f3⟩ := fresh_zero hf
          injection h with h; injection h with h1 h2; subst h1 h2
          have hl : (argsN x).length ≤ 16 := by
            obtain ⟨k, a, b, l, n⟩ := x
            rw [NdG] at hx
            exact hx.2.1
          rw [Bool.and_eq_true, decide_eq_true_eq] at hlen
          exact ⟨{ hc with grps := mem_snoc hc.grps ⟨f1, by show 1 ≤ (argsN x).tail.length; rw [List.length_tail]; omega, by show (argsN x).tail.length ≤ 15; rw [List.length_tail]; omega, hfits⟩, grpsN := by show ((c.grps ++ [(⟨argN x 0, (argsN x).tail⟩ : Grp)]).map Grp.name).Nodup; rw [List.map_append]; exact nodup_snoc hc.grpsN (any_no f2), grpsL := by show (c.grps ++ [(⟨argN x 0, (argsN x).tail⟩ : Grp)]).length ≤ 4096; rw [List.length_append]; simp only [List.length_cons, List.length_nil]; omega }, hu⟩
      · cases h
    · cases h
  split at h
  · split at h
    · split at h
      · rename_i hsec
        simp only at h
        split at h
        · cases h
        · rename_i hf
          obtain ⟨f1, f2, f3⟩ := fresh_zero hf
          injection h with h; injection h with h1 h2; subst h1 h2
          exact ⟨{ hc with usrs := mem_snoc hc.usrs ⟨f1, hsec⟩, usrsN := by show ((c.usrs ++ [(⟨argN x 0, argN x 1⟩ : Usr)]).map Usr.name).Nodup; rw [List.map_append]; exact nodup_snoc hc.usrsN (any_no f2), usrsL := by show (c.usrs ++ [(⟨argN x 0, argN x 1⟩ : Usr)]).length ≤ 4096; rw [List.length_append]; simp only [List.length_cons, List.length_nil]; omega }, hu⟩
      · cases h
    · cases h
  split at h
  · split at h
    · split at h
      · rename_i hfits
        rw [Bool.and_eq_true] at hfits
        cases hq : idx (fun s => decide (s = argN x 2)) levels15 with
        | none => rw [hq] at h; cases h
        | some k =>
          rw [hq] at h
          simp only at h
          split at h
          · cases h
          · rename_i hl
            injection h with h; injection h with h1 h2; subst h1 h2
            obtain ⟨z, hz, -⟩ := idx_some_x hq
            have hk : k < 4 := (List.getElem?_eq_some_iff.1 hz).1
            exact ⟨{ hc with accs := mem_snoc hc.accs ⟨hfits.1, hfits.2, by show (0 : Int) ≤ (k : Int); omega, by show (k : Int) < 4; omega⟩, accsL := by show (c.accs ++ [(⟨argN x 0, argN x 1, k⟩ : Acc)]).length ≤ 4096; rw [List.length_append]; simp only [List.length_cons, List.length_nil]; omega }, hu⟩
      · cases h
    · cases h
  split at h
  · split at h
    · cases hq : numP (argN x 0) 1 9 with
      | inl e => rw [hq] at h; cases h
      | inr i =>
        rw [hq] at h
        simp only at h
        obtain ⟨e, he⟩ : ∃ e, e = if (brkP (argN x 1).data.toList).1 = 0 then (if (argN x 1).size = 0 then (3 : Int) else 0) else (brkP (argN x 1).data.toList).1 := ⟨_, rfl⟩
        rw [← he] at h
        split at h
        · cases h
        · rename_i hz
          split at h
          · cases h
          · injection h with h; injection h with h1 h2; subst h1 h2
            have hb : (brkP (argN x 1).data.toList).1 = 0 := by
              split at he
              · assumption
              · rw [he] at hz; exact Classical.not_not.1 hz
            have hi : 1 ≤ i := by
              unfold numP at hq
              split at hq
              · split at hq
                · cases hq
                · injection hq with hq; omega
              · cases hq
            refine ⟨{ hc with brksL := by show (c.brks.set i.toNat (argN x 1)).length = 10; rw [List.length_set]; exact hc.brksL, brk0 := ?_, brks := fun s hs => ?_ }, hu⟩
            · show ((c.brks.set i.toNat (argN x 1)).getD 0 ⟨#[]⟩).size = 0
              rw [List.getD_eq_getElem?_getD, List.getElem?_set_ne (by omega), ← List.getD_eq_getElem?_getD]
              exact hc.brk0
            · rcases List.mem_or_eq_of_mem_set hs with hs | rfl
              · exact hc.brks s hs
              · exact .inr hb
    · cases h
  split at h
  · split at h
    · cases hq : setsS c.cons u (subN x) with
      | inl e => rw [hq] at h; cases h
      | inr y =>
        rw [hq] at h
        injection h with h; injection h with h1 h2; subst h1 h2
        exact ⟨hc, (setsS_good hcs _ _ _ hu hq).1⟩
    · cases h
  · cases h
theorem stmts2_good : ∀ (xs : List Nd) (c c' : Cf) (u u' : Con), NdsG xs → CfG c → SetG u → stmts2 c u xs = .inr (c', u') → CfG c' ∧ SetG u'
  | [], c, c', u, u', _, hc, hu, h => by rw [stmts2] at h; injection h with h; injection h with h1 h2; subst h1 h2; exact ⟨hc, hu⟩
  | x :: xs, c, c', u, u', hx, hc, hu, h => by
    rw [NdsG] at hx
    rw [stmts2] at h
    cases hq : stmtS c u x with
    | inl e => rw [hq] at h; cases h
    | inr p =>
      rw [hq] at h
      obtain ⟨p1, p2⟩ := p
      obtain ⟨g1, g2⟩ := stmtS_good hx.1 hc hu hq
      exact stmts2_good xs p1 c' p2 u' hx.2 g1 g2 h
theorem load_good {s : List UInt8} {c : Cf} (h : loadS s = .inr c) : CfG c := by
  unfold loadS at h
  cases ht : treeP s with
  | inl e => rw [ht] at h; cases h
  | inr l =>
    rw [ht] at h
    simp only at h
    obtain ⟨v, hv⟩ := stmtsS_ok.1 h
    exact (stmts2_good l _ _ _ _ (treeP_good ht) empty_good usual_good hv).1
end Go.Proofs.YtfpajgmdejlaeaaGreatDoor
