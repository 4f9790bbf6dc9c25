/-
  Files by name, plainly: lists that rise by name, what is put there, what goes; and how they read in a map. No program in sight.
-/
import Derived.Test.YtfpajgmdejlaeaaGreatDoorQGround3
import Derived.Test.YtfpajgmdejlaeaaGreatDoorQGround2
import Derived.Maps.RangeWalk
import Derived.Maps.OwnSet
import Derived.Sort.KeysCollected
import Derived.Sort.Walk0
namespace Go.Proofs.YtfpajgmdejlaeaaGreatDoor
open Go.RowKit Go.Maps

def nmLt (a b : ByteArray) : Bool := bytesBefore a.data.toList b.data.toList
theorem before_less : ∀ a b : List UInt8, bytesBefore a b = Op.bytesLess a b
  | [], [] => rfl
  | [], _ :: _ => rfl
  | _ :: _, [] => rfl
  | a :: r, b :: s => by
    show (a < b || (a == b && bytesBefore r s)) = (a < b || (a == b && Op.bytesLess r s))
    rw [before_less r s]
theorem nmLt_less (a b : ByteArray) : Op.bytesLess a.toList b.toList = nmLt a b := by rw [ByteArray.toList_eq, ByteArray.toList_eq]; exact (before_less _ _).symm
theorem nmLt_irrefl (a : ByteArray) : nmLt a a = false := WideAt.bytes_irrefl _
theorem nmLt_trans {a b c : ByteArray} (h : nmLt a b = true) (k : nmLt b c = true) : nmLt a c = true := WideShapes.bytes_trans _ _ _ h k
theorem nmLt_ne {a b : ByteArray} (h : nmLt a b = true) : a ≠ b := by rintro rfl; rw [nmLt_irrefl] at h; cases h
theorem nmLt_asymm {a b : ByteArray} (h : nmLt a b = true) : nmLt b a = false := by
  cases hb : nmLt b a with
  | false => rfl
  | true => have := nmLt_trans h hb; rw [nmLt_irrefl] at this; cases this
theorem nmLt_total {a b : ByteArray} (h : a ≠ b) : nmLt a b = true ∨ nmLt b a = true := WideAt.bytes_total _ _ (fun e => h (ba_ext e))
theorem nmLt_le {a b : ByteArray} (h : nmLt a b = true) : leB a.data.toList b.data.toList = true := by
  unfold nmLt at h
  rw [before_less, bytesLess_eq] at h
  simp only [decide_eq_true_eq] at h ⊢
  exact List.le_of_lt h

/-! lists by name -/
section
variable {α : Type} (nm : α → ByteArray)
def insG (x : α) : List α → List α
  | [] => [x]
  | y :: r => if nmLt (nm x) (nm y) then x :: y :: r else y :: insG x r
def delG (n : ByteArray) (l : List α) : List α := l.filter fun y => decide (nm y ≠ n)
def getG (n : ByteArray) (l : List α) : Option α := l.find? fun y => decide (nm y = n)
def putG (x : α) (l : List α) : List α := insG nm x (delG nm (nm x) l)
def Rise (l : List α) : Prop := l.Pairwise fun a b => nmLt (nm a) (nm b) = true
variable {nm}
theorem insG_perm (x : α) : ∀ l, (insG nm x l).Perm (x :: l)
  | [] => List.Perm.refl _
  | y :: r => by
    unfold insG
    split
    · exact List.Perm.refl _
    · exact ((insG_perm x r).cons y).trans (List.Perm.swap _ _ _)
theorem insG_mem {x z : α} {l : List α} : z ∈ insG nm x l ↔ z = x ∨ z ∈ l := by rw [(insG_perm x l).mem_iff, List.mem_cons]
theorem insG_len (x : α) (l : List α) : (insG nm x l).length = l.length + 1 := by rw [(insG_perm x l).length_eq]; rfl
theorem insG_rise {x : α} : ∀ {l : List α}, Rise nm l → (∀ y ∈ l, nm y ≠ nm x) → Rise nm (insG nm x l)
  | [], _, _ => by simp [insG, Rise]
  | y :: r, h, hn => by
    obtain ⟨h1, h2⟩ := List.pairwise_cons.1 h
    unfold insG
    split
    · rename_i hlt
      refine List.pairwise_cons.2 ⟨fun z hz => ?_, h⟩
      rcases List.mem_cons.1 hz with rfl | hz
      · exact hlt
      · exact nmLt_trans hlt (h1 z hz)
    · rename_i hlt
      refine List.pairwise_cons.2 ⟨fun z hz => ?_, insG_rise h2 (fun z hz => hn z (by simp [hz]))⟩
      rcases insG_mem.1 hz with rfl | hz
      · rcases nmLt_total (hn y (by simp)) with h3 | h3
        · exact h3
        · exact absurd h3 hlt
      · exact h1 z hz
theorem delG_rise {l : List α} (h : Rise nm l) (n : ByteArray) : Rise nm (delG nm n l) := List.Pairwise.filter _ h
theorem delG_ne {n : ByteArray} {l : List α} : ∀ y ∈ delG nm n l, nm y ≠ n := fun y hy => by simpa using (List.mem_filter.1 hy).2
theorem delG_mem {n : ByteArray} {l : List α} {y : α} : y ∈ delG nm n l ↔ y ∈ l ∧ nm y ≠ n := by unfold delG; rw [List.mem_filter]; simp
theorem putG_rise {l : List α} (h : Rise nm l) (x : α) : Rise nm (putG nm x l) := insG_rise (delG_rise h _) delG_ne
theorem delG_none {n : ByteArray} {l : List α} (h : getG nm n l = none) : delG nm n l = l := by
  refine List.filter_eq_self.2 fun y hy => ?_
  have := List.find?_eq_none.1 h y hy
  simpa using this
theorem getG_some {n : ByteArray} {l : List α} {x : α} (h : getG nm n l = some x) : x ∈ l ∧ nm x = n := ⟨List.mem_of_find?_eq_some h, by simpa using List.find?_some h⟩
theorem getG_ne {n : ByteArray} {l : List α} (h : getG nm n l = none) : ∀ y ∈ l, nm y ≠ n := fun y hy => by simpa using List.find?_eq_none.1 h y hy
theorem rise_inj {l : List α} (h : Rise nm l) {x y : α} (hx : x ∈ l) (hy : y ∈ l) (e : nm x = nm y) : x = y := by
  induction l with
  | nil => cases hx
  | cons z l ih =>
    obtain ⟨h1, h2⟩ := List.pairwise_cons.1 h
    rcases List.mem_cons.1 hx with rfl | hx'
    · rcases List.mem_cons.1 hy with rfl | hy'
      · rfl
      · exact absurd e (nmLt_ne (h1 y hy'))
    · rcases List.mem_cons.1 hy with rfl | hy'
      · exact absurd e.symm (nmLt_ne (h1 x hx'))
      · exact ih h2 hx' hy'
theorem getG_of_mem {l : List α} (h : Rise nm l) {x : α} (hx : x ∈ l) : getG nm (nm x) l = some x := by
  cases hg : getG nm (nm x) l with
  | none => exact absurd rfl (getG_ne hg x hx)
  | some y => rw [rise_inj h hx (getG_some hg).1 (getG_some hg).2.symm]
theorem insG_skip {x : α} : ∀ {l : List α}, (∀ y ∈ l, nmLt (nm x) (nm y) = false) → insG nm x l = l ++ [x]
  | [], _ => rfl
  | y :: r, h => by
    unfold insG
    rw [if_neg (by rw [h y (by simp)]; simp), insG_skip (fun z hz => h z (by simp [hz]))]; rfl
theorem insG_first {x : α} {l : List α} (h : ∀ y ∈ l, nmLt (nm x) (nm y) = true) : insG nm x l = x :: l := by
  cases l with
  | nil => rfl
  | cons y r => unfold insG; rw [if_pos (h y (by simp))]
/-- what is put in place of one of its name stands in its place -/
theorem putG_there {x : α} : ∀ {l : List α}, Rise nm l → (∃ y ∈ l, nm y = nm x) → putG nm x l = l.map fun y => if nm y = nm x then x else y
  | [], _, h => by obtain ⟨y, hy, _⟩ := h; cases hy
  | y :: r, hr, h => by
    obtain ⟨h1, h2⟩ := List.pairwise_cons.1 hr
    by_cases he : nm y = nm x
    · have hd : delG nm (nm x) (y :: r) = r := by
        unfold delG
        rw [List.filter_cons_of_neg (by simpa using he)]
        refine List.filter_eq_self.2 fun z hz => ?_
        have := nmLt_ne (h1 z hz)
        rw [he] at this
        simpa using fun e => this e.symm
      have hm : (r.map fun z => if nm z = nm x then x else z) = r := by
        refine (List.map_congr_left fun z hz => ?_).trans (List.map_id' r)
        have := nmLt_ne (h1 z hz)
        rw [he] at this
        rw [if_neg fun e => this e.symm]
      unfold putG
      rw [hd, List.map_cons, if_pos he, hm]
      exact insG_first fun z hz => by rw [← he]; exact h1 z hz
    · have hex : ∃ z ∈ r, nm z = nm x := by
        obtain ⟨z, hz, e⟩ := h
        rcases List.mem_cons.1 hz with rfl | hz
        · exact absurd e he
        · exact ⟨z, hz, e⟩
      have ih := putG_there h2 hex
      have hlt : nmLt (nm x) (nm y) = false := by
        obtain ⟨z, hz, e⟩ := hex
        rw [← e]
        exact nmLt_asymm (h1 z hz)
      unfold putG at ih ⊢
      have hd : delG nm (nm x) (y :: r) = y :: delG nm (nm x) r := by unfold delG; rw [List.filter_cons_of_pos (by simpa using he)]
      rw [hd, List.map_cons, if_neg he]
      show (if nmLt (nm x) (nm y) then x :: y :: delG nm (nm x) r else y :: insG nm x (delG nm (nm x) r)) = _
      rw [if_neg (by rw [hlt]; simp), ih]
variable {β : Type} {nb : β → ByteArray} {f : α → β}
theorem insG_map (hf : ∀ a, nb (f a) = nm a) (x : α) : ∀ l, (insG nm x l).map f = insG nb (f x) (l.map f)
  | [] => rfl
  | y :: r => by
    unfold insG
    rw [hf, List.map_cons]
    show _ = if nmLt (nm x) (nb (f y)) then _ else _
    rw [hf]
    split
    · rfl
    · rw [List.map_cons, insG_map hf x r]
theorem delG_map (hf : ∀ a, nb (f a) = nm a) (n : ByteArray) (l : List α) : (delG nm n l).map f = delG nb n (l.map f) := by
  unfold delG
  rw [List.filter_map]
  congr 1
  refine List.filter_congr fun y _ => ?_
  simp [hf]
theorem putG_map (hf : ∀ a, nb (f a) = nm a) (x : α) (l : List α) : (putG nm x l).map f = putG nb (f x) (l.map f) := by
  unfold putG
  rw [insG_map hf, delG_map hf, hf]
theorem getG_map (hf : ∀ a, nb (f a) = nm a) (n : ByteArray) (l : List α) : getG nb n (l.map f) = (getG nm n l).map f := by
  unfold getG
  rw [List.find?_map]
  congr 2
  funext y
  simp [hf]
theorem rise_map (hf : ∀ a, nb (f a) = nm a) {l : List α} : Rise nb (l.map f) ↔ Rise nm l := by
  unfold Rise
  rw [List.pairwise_map]
  simp only [hf]
end

/-! how such a list reads in a map from texts to pointers -/
/-- a pointer to a block's head reads as that block's number -/
def ptrR : Value → Option (DataW Unit × List MemPlace)
  | .pointer (some ⟨p, 0, none⟩) => some (.lit (.int .i64 p), [])
  | .pointer none => some (.lit (.bool false), [])
  | _ => none
theorem ptrR_inv {v : Value} {p : Nat} {ps : List MemPlace} (h : ptrR v = some (.lit (.int .i64 p), ps)) : v = .pointer (some ⟨p, 0, none⟩) := by
  unfold ptrR at h
  split at h
  · rename_i q
    simp only [Option.some.injEq, Prod.mk.injEq, DataW.lit.injEq, Lit.int.injEq, true_and] at h
    have : q = p := by omega
    rw [this]
  · simp at h
  · cases h
theorem ptrR_nil {v : Value} {ps : List MemPlace} (h : ptrR v = some (.lit (.bool false), ps)) : v = .pointer none := by
  unfold ptrR at h
  split at h
  · simp at h
  · rfl
  · cases h
section
variable {α : Type} {nm : α → ByteArray} {pt : α → Nat}
def ent (nm : α → ByteArray) (pt : α → Nat) (x : α) : Lit × DataW Unit := (.string (nm x).data.toList, .lit (.int .i64 (pt x)))
def mapD (nm : α → ByteArray) (pt : α → Nat) (l : List α) : DataW Unit := .map (l.map (ent nm pt))
theorem ent_same (n : ByteArray) (x : α) : (ent nm pt x).1.sameKey (.string n.data.toList) = decide (nm x = n) := by
  show ((nm x).data.toList == n.data.toList) = _
  by_cases h : nm x = n
  · rw [h]; simp
  · rw [decide_eq_false h, beq_eq_false_iff_ne]; exact fun e => h (ba_ext e)
theorem mapD_ins (x : α) : ∀ l : List α, DataW.insert (ent nm pt x) (l.map (ent nm pt)) = (insG nm x l).map (ent nm pt)
  | [] => rfl
  | y :: r => by
    rw [List.map_cons]
    unfold DataW.insert insG
    show (if nmLt (nm x) (nm y) = true then _ else _) = _
    split
    · rfl
    · rw [mapD_ins x r, List.map_cons]
theorem mapD_del (n : ByteArray) (l : List α) : (mapD nm pt l).del (.string n.data.toList) = mapD nm pt (delG nm n l) := by
  show DataW.map ((l.map (ent nm pt)).filter fun p => !p.1.sameKey (.string n.data.toList)) = DataW.map ((l.filter fun y => decide (nm y ≠ n)).map (ent nm pt))
  rw [List.filter_map]
  congr 2
  refine List.filter_congr fun y _ => ?_
  show (!(ent nm pt y).1.sameKey (.string n.data.toList)) = _
  rw [ent_same]
  by_cases h : nm y = n <;> simp [h]
theorem mapD_put (x : α) (l : List α) : (mapD nm pt l).put (.string (nm x).data.toList) (.lit (.int .i64 (pt x))) = mapD nm pt (putG nm x l) := by
  have hd := mapD_del (nm := nm) (pt := pt) (nm x) l
  unfold mapD DataW.del at hd
  injection hd with hd
  unfold mapD DataW.put
  show DataW.map (DataW.insert (ent nm pt x) _) = _
  rw [hd, mapD_ins]; rfl
theorem mapD_at (n : ByteArray) (l : List α) (zd : DataW Unit) : (mapD nm pt l).atKey (.string n.data.toList) zd = match getG nm n l with | some x => .lit (.int .i64 (pt x)) | none => zd := by
  unfold mapD DataW.atKey getG
  simp only [List.find?_map]
  have : ((fun p : Lit × DataW Unit => p.1.sameKey (.string n.data.toList)) ∘ ent nm pt) = fun y => decide (nm y = n) := by
    funext y; exact ent_same (pt := pt) n y
  rw [this]
  cases l.find? fun y => decide (nm y = n) <;> rfl
theorem mapD_has (n : ByteArray) (l : List α) : Maps.has (mapD nm pt l) (.string n.data.toList) = (getG nm n l).isSome := by
  unfold mapD getG
  rw [has_eq, List.any_map, List.isSome_find?]
  congr 1
  funext y
  exact ent_same (pt := pt) n y
theorem mapD_keys (l : List α) : strKeys (mapD nm pt l) = l.map fun x => (nm x).data.toList := by
  show (l.map (ent nm pt)).map (fun p => strOf p.1) = _
  rw [List.map_map]; rfl
/-- sorted, they are as they stand -/
theorem keys_sorted {l : List α} (h : Rise nm l) {ss : List (List UInt8)} (hp : ss.Perm (strKeys (mapD nm pt l))) : ss.mergeSort leB = l.map fun x => (nm x).data.toList := by
  rw [mergeSort_of_perm hp, mapD_keys]
  refine List.mergeSort_of_pairwise ?_
  rw [List.pairwise_map]
  exact h.imp fun h => nmLt_le h
end

section
variable {H : Type} {P : Program} {k : TypeId} {R : Value → Option (DataW H × List MemPlace)} {w w' : World} {b n : Nat}
theorem ownsMap_keeps {D : DataW H} {S : Nat → Prop} (h : w.ownsMap P k R b n D) (kk : Keeps S w w') (hS : ¬ S b) : w'.ownsMap P k R b n D := by
  have hlt := h.lt
  obtain ⟨es, clock, hb, F, hs, hD⟩ := h
  exact ⟨es, clock, (kk.block b hlt hS).trans hb, F, hs, hD⟩
theorem ownsMap_len {E : List (Lit × DataW H)} (h : w.ownsMap P k R b n (.map E)) : w.ownsMap P k R b E.length (.map E) := by
  obtain ⟨es, clock, hb, F, hs, hD⟩ := h
  refine ⟨es, clock, hb, F, ?_, hD⟩
  injection hD with hD
  rw [hD, length_read]
  exact Nat.le_refl _
theorem turned_keeps (h : w.mapTurned w' b) : Keeps (fun i => i = b) w w' := by
  have hg := h.grown
  exact ⟨hg.os, hg.tape, hg.output, hg.size, fun i hi hn => hg.block i hi (fun e => hn (by injection e))⟩
theorem turned_isMap (h : w.mapTurned w' b) : ∃ es c, w'.heap[b]? = some (.map es c) := by
  obtain ⟨es, c, es', c', hb, rfl⟩ := h
  exact ⟨es', c', ChangeMaps.heap_setBlock_same hb _⟩
end
end Go.Proofs.YtfpajgmdejlaeaaGreatDoor
