/-
  Lower texts of this claim, joined.
-/
import Derived.Test.YtkmpdobojgiegaaGreatDoorQGround2
import Derived.Deep.Fields
import Derived.Test.YtkmpdobojgiegaaGreatDoorQGround1
import Derived.Test.YtkmpdobojgiegaaGreatDoorChecked
import Derived.Deep.DeepCutAuto
import Derived.Deep.CutBlock
import Derived.ChangeArms
/-
  The document's store (wheelhouseref11): Sync, Remove, Append, Rename.
-/
namespace Go.Proofs.YtkmpdobojgiegaaGreatDoor
open Go.RowKit Go.Maps
set_option linter.unusedSimpArgs false

theorem DocL.slc {w : World} {v : Value} {l : List SFile} (h : DocL w v l) : ∃ a n c, v = .slice a n c := by
  obtain ⟨a, c, hv, _⟩ := h.cells
  exact ⟨a, _, c, hv⟩
theorem Blk.far3 {w : World} {g k : Nat} {t : TypeId} {cs : Array Value} (h : Blk w k t cs) (hk : k ≠ g) (x y z : Value) : Blk (((w.setCell ⟨g, 0, none⟩ x).setCell ⟨g, 1, none⟩ y).setCell ⟨g, 2, none⟩ z) k t cs := ((h.far hk x).far hk y).far hk z
theorem OwnS.sl3 {α : Type} {R : α → List Value} {size : Nat} {w : World} {B : Nat} {e : TypeId} {v : Value} {xs : List α} (h : OwnS R size w B e v xs) : ∃ a n c, v = .slice a n c := by obtain ⟨a, c, hv⟩ := h.sl; exact ⟨a, _, c, hv⟩

end Go.Proofs.YtkmpdobojgiegaaGreatDoor

/-
  The document's store (wheelhouseref11): Rename.
-/
namespace Go.Proofs.YtkmpdobojgiegaaGreatDoor
open Go.RowKit Go.Maps
set_option linter.unusedSimpArgs false


end Go.Proofs.YtkmpdobojgiegaaGreatDoor

/-
  The document's store (wheelhouseref11): Append.
-/
namespace Go.Proofs.YtkmpdobojgiegaaGreatDoor
open Go.RowKit Go.Maps
set_option linter.unusedSimpArgs false


end Go.Proofs.YtkmpdobojgiegaaGreatDoor

/-
  law11: a store while acts go on, its acts in few words; the document's list beside it.
-/
namespace Go.Proofs.YtkmpdobojgiegaaGreatDoor
open Go.RowKit Go.Maps

/-- blocks that are somebody else's: no store takes or writes them -/
class Res where
  R : Nat → Prop
/-- the kinds of blocks that a store is made of, and not somebody else's -/
def StR [Res] (w : World) (i : Nat) : Prop := ¬ Res.R i ∧ StT w i
structure Sto [Res] (w0 w : World) (s M : Nat) (most : Int) (bad : Nat) (L : List SRep) (n : Nat) : Prop where
  ety : Ety w0
  keeps : Keeps (fun _ => False) w0 w
  store : StoreAt w (fun i => w0.heap.size ≤ i ∧ ¬ Res.R i) s most bad M L
  res : ∀ i, Res.R i → i < w.heap.size
  fit : Fit most (L.map SRep.f)
  len : L.length ≤ n
  hn : n ≤ 1048576
  hb : bad ≤ 9223372036854775807
  m1 : 1 ≤ most
  m2 : most ≤ 16777216

section
variable {w0 w w' : World} {s M bad n : Nat} {most : Int} {L : List SRep}
theorem ety_keeps {S : Nat → Prop} (h : Ety w) (k : Keeps S w w') (hS : ∀ i, i < w.heap.size → ¬ S i) : Ety w' := by
  unfold Ety at h ⊢
  have hlt := block_lt_of_cell h
  rw [World.cell?_of_block (w := w) (k.block _ hlt (hS _ hlt))]
  exact h
variable [Res]
theorem StR.not {i : Nat} {t : TypeId} {cs : Array Value} (h : StR w i) (hb : Blk w i t cs) (h1 : t ≠ 103) (h2 : t ≠ 140) (h3 : t ≠ 5) : False := h.2.not hb h1 h2 h3
theorem StoreAt.shrinkR {F : Nat → Prop} (h : StoreAt w (fun i => F i ∧ ¬ Res.R i) s most bad M L) : StoreAt w (fun i => F i ∧ StR w i) s most bad M L := h.shrink.mono fun _ hi => ⟨hi.1.1, hi.1.2, hi.2⟩
theorem Sto.same (h : Sto w0 w s M most bad L n) (k : Keeps (fun _ => False) w w') : Sto w0 w' s M most bad L n :=
  { h with keeps := h.keeps.trans k, store := h.store.keeps k (fun _ _ => id), res := fun i hi => Nat.lt_of_lt_of_le (h.res i hi) k.size }
theorem Sto.etyw (h : Sto w0 w s M most bad L n) : Ety w := ety_keeps h.ety h.keeps (fun _ _ => id)
theorem Sto.size (h : Sto w0 w s M most bad L n) {r : SRep} (hr : r ∈ L) : r.f.sure ≤ r.f.data.size ∧ r.f.data.size ≤ 16777216 ∧ r.f.name.size ≤ 64 := by
  have hm : r.f ∈ L.map SRep.f := List.mem_map.2 ⟨r, hr, rfl⟩
  have h1 := h.fit.each _ hm
  have h2 := totF_mem hm
  have h3 := h.fit.fit
  have h4 := h.m2
  exact ⟨h1.1, by omega, (namedP_size h1.2).2⟩
theorem Sto.tot (h : Sto w0 w s M most bad L n) : (totL L : Int) ≤ most := by have := h.fit.fit; rwa [tot_f] at this
theorem Sto.rise (h : Sto w0 w s M most bad L n) : Rise SFile.name (L.map SRep.f) := by
  have := h.store.rise
  unfold Rise at this ⊢
  rw [List.pairwise_map]
  exact this
/-- a block of another kind stays -/
theorem Blk.other {F : Nat → Prop} {g : Nat} {t : TypeId} {cs : Array Value} (hb : Blk w g t cs) (k : Keeps (fun i => F i ∧ StR w i) w w') (h1 : t ≠ 103) (h2 : t ≠ 140) (h3 : t ≠ 5) : Blk w' g t cs :=
  hb.keeps k fun e => e.2.not hb h1 h2 h3
/-- a block of another kind is written: the store stays -/
theorem Sto.beside (h : Sto w0 w s M most bad L n) {S : Nat → Prop} (k : Keeps S w w') (hS : ∀ i, S i → w0.heap.size ≤ i ∧ ∃ t cs, Blk w i t cs ∧ t ≠ 103 ∧ t ≠ 140 ∧ t ≠ 5) : Sto w0 w' s M most bad L n :=
  { h with
    keeps := h.keeps.and_ k fun i hi hh => by have := (hS i hh).1; have := h.keeps.size; omega
    store := (h.store.shrinkR.keeps k fun i hi hh => by obtain ⟨_, t, cs, hb, h1, h2, h3⟩ := hS i hh; exact hi.2.not hb h1 h2 h3).mono fun i hi => ⟨hi.1, hi.2.1⟩
    res := fun i hi => Nat.lt_of_lt_of_le (h.res i hi) k.size }
/-- behind an act -/
def Done (w0 w : World) (s M : Nat) (most : Int) (n : Nat) (x : Int × Nat × List SFile) (e : Ending) (w' : World) : Prop :=
  ∃ v L, e = .returned v ∧ ErrV w' x.1 v ∧ Sto w0 w' s M most x.2.1 L (n + 1) ∧ L.map SRep.f = x.2.2 ∧ Keeps (fun i => w0.heap.size ≤ i ∧ StR w i) w w'
theorem Sto.after (h : Sto w0 w s M most bad L n) (hn : n < 1048576) {x : Int × Nat × List SFile} {e : Ending} (ha : After w (fun i => w0.heap.size ≤ i ∧ StR w i) s most M x e w') (hl : Left most bad (L.map SRep.f) x) : Done w0 w s M most n x e w' := by
  obtain ⟨v, L', rfl, he, hs, hm, k⟩ := ha
  have hlo := h.keeps.size
  refine ⟨v, L', rfl, he, ⟨h.ety, h.keeps.and_ k (fun i hi hh => by have := hh.1; omega), hs.mono (fun i hi => ?_), fun i hi => Nat.lt_of_lt_of_le (h.res i hi) k.size, by rw [hm]; exact hl.1, ?_, hn, Nat.le_trans hl.2.1 h.hb, h.m1, h.m2⟩, hm, k⟩
  · rcases hi with hi | hi
    · exact ⟨hi.1, hi.2.1⟩
    · exact ⟨by omega, fun hR => by have := h.res i hR; omega⟩
  · have h1 := hl.2.2
    rw [← hm, List.length_map, List.length_map] at h1
    have := h.len
    omega
theorem ssync (h : Sto w0 w s M most bad L n) (hn : n < 1048576) (nm : ByteArray) : Calls Tryz.prog 130 #[.pointer (some ⟨s, 0, none⟩), .string nm] w (Done w0 w s M most n (syncP bad (L.map SRep.f) nm)) :=
  (sync_any h.store.shrinkR nm h.hb).mono fun _ _ ha => h.after hn ha (h.fit.sync h.rise bad nm)
theorem sremove (h : Sto w0 w s M most bad L n) (hn : n < 1048576) (nm : ByteArray) : Calls Tryz.prog 220 #[.pointer (some ⟨s, 0, none⟩), .string nm] w (Done w0 w s M most n (removeP bad (L.map SRep.f) nm)) :=
  (remove_any h.store.shrinkR nm h.hb).mono fun _ _ ha => h.after hn ha (h.fit.remove h.rise bad nm)
theorem srename (h : Sto w0 w s M most bad L n) (hn : n < 1048576) (nm nt : ByteArray) : Calls Tryz.prog 222 #[.pointer (some ⟨s, 0, none⟩), .string nm, .string nt] w (Done w0 w s M most n (renameP bad (L.map SRep.f) nm nt)) :=
  (rename_any h.store.shrinkR nm nt h.hb (by have := h.len; omega)).mono fun _ _ ha => h.after hn ha (h.fit.rename h.rise bad nm nt)
theorem sappend (h : Sto w0 w s M most bad L n) (hn : n < 1048576) (nm b : ByteArray) (hb : b.size ≤ 17179869184) : Calls Tryz.prog 198 #[.pointer (some ⟨s, 0, none⟩), .string nm, .string b] w (Done w0 w s M most n (appendP most bad (L.map SRep.f) nm b)) :=
  (append_any h.store.shrinkR nm b h.hb (by have := h.len; omega) h.m1 h.m2 h.tot hb).mono fun _ _ ha => h.after hn ha (h.fit.append h.rise bad nm b)
/-- behind a call that changes it and tells no error -/
def Done2 (w0 w : World) (s M : Nat) (most : Int) (n bad : Nat) (l : List SFile) (e : Ending) (w' : World) : Prop :=
  ∃ L, e = .returned (.tuple #[]) ∧ Sto w0 w' s M most bad L n ∧ L.map SRep.f = l ∧ Keeps (fun i => w0.heap.size ≤ i ∧ StR w i) w w'
theorem scrash2 (h : Sto w0 w s M most bad L n) (keep : List Int) (a : Option Addr) (m c : Nat) (hk2 : ∀ W, Keeps (fun i => w0.heap.size ≤ i ∧ StR w i) w W → SlAt intR 1 W a m keep) (hkb : ∀ k ∈ keep, -9223372036854775808 ≤ k ∧ k ≤ 9223372036854775807) (hm : m ≤ 4611686018427387904) :
    Calls Tryz.prog 16 #[.pointer (some ⟨s, 0, none⟩), .slice a m c] w (Done2 w0 w s M most n 0 (crashP keep (L.map SRep.f))) := by
  have hlo := h.keeps.size
  refine (crash_any h.store.shrinkR (by have := h.len; have := h.hn; omega) (fun r hr => by have := h.size hr; unfold maxLen; omega) keep a m c hk2 hkb hm).mono ?_
  rintro e w' ⟨rfl, ⟨L', hs, hl⟩, k⟩
  have hlen : L'.length = L.length := by
    have := congrArg List.length hl
    rw [crash_len, List.length_map, List.length_map] at this
    exact this
  exact ⟨L', rfl, ⟨h.ety, h.keeps.and_ k (fun i hi hh => by have := hh.1; omega), hs.mono fun i hi => ⟨hi.1, hi.2.1⟩, fun i hi => Nat.lt_of_lt_of_le (h.res i hi) k.size, by rw [hl]; exact h.fit.crash keep, by rw [hlen]; exact h.len, h.hn, by omega, h.m1, h.m2⟩, hl, k⟩
theorem scrash (h : Sto w0 w s M most bad L n) (keep : List Int) (a : Option Addr) (m c : Nat) (hk : SlAt intR 1 w0 a m keep) (hkb : ∀ k ∈ keep, -9223372036854775808 ≤ k ∧ k ≤ 9223372036854775807) (hm : m ≤ 4611686018427387904) :
    Calls Tryz.prog 16 #[.pointer (some ⟨s, 0, none⟩), .slice a m c] w (Done2 w0 w s M most n 0 (crashP keep (L.map SRep.f))) :=
  scrash2 h keep a m c (fun W kk => hk.keeps (h.keeps.and_ (S := fun _ => False) kk (fun i hi hh => by have := hh.1; omega)) (fun _ _ => id)) hkb hm
end
end Go.Proofs.YtkmpdobojgiegaaGreatDoor

/-
  A store's acts in few words: New, and what is read of it.
-/
namespace Go.Proofs.YtkmpdobojgiegaaGreatDoor
open Go.RowKit Go.Maps

section
variable [Res] {w0 w w' w1 : World} {s M bad n : Nat} {most : Int} {L : List SRep}
theorem Sto.new (he : Ety w0) (k0 : Keeps (fun _ => False) w0 w) (k : Keeps (fun _ => False) w w1) (hs : StoreAt w1 (fun i => w.heap.size ≤ i) s most 0 M []) (h1 : 1 ≤ most) (h2 : most ≤ 16777216) (hr : ∀ i, Res.R i → i < w.heap.size := by intro i h; exact h.elim) : Sto w0 w1 s M most 0 [] 0 :=
  ⟨he, k0.trans k, hs.mono fun i hi => ⟨by have := k0.size; omega, fun hR => by have := hr i hR; omega⟩, fun i hi => Nat.lt_of_lt_of_le (hr i hi) k.size, ⟨by show ((0 : Nat) : Int) ≤ most; omega, fun f hf => by cases hf⟩, Nat.le_refl _, by omega, by omega, h1, h2⟩
theorem snew_ok (he : Ety w0) (k0 : Keeps (fun _ => False) w0 w) (h1 : 1 ≤ most) (h2 : most ≤ 16777216) (hr : ∀ i, Res.R i → i < w.heap.size := by intro i h; exact h.elim) : Calls Tryz.prog 8 #[.int .i64 most] w fun e w' => ∃ s M, e = .returned (.tuple #[.pointer (some ⟨s, 0, none⟩), .nilIface]) ∧ Sto w0 w' s M most 0 [] 0 ∧ Keeps (fun _ => False) w w' := by
  refine (snew_any w most).mono ?_
  rintro e w' ⟨⟨_, _, s, M, he', hs⟩ | ⟨hn, _⟩, k⟩
  · exact ⟨s, M, he', Sto.new he k0 k hs h1 h2 hr, k⟩
  · exact absurd ⟨h1, h2⟩ hn
theorem ErrV.other {c : Int} {v : Value} {F : Nat → Prop} (h : ErrV w c v) (k : Keeps (fun i => F i ∧ StR w i) w w') : ErrV w' c v :=
  h.keeps k fun i cs hb e => e.2.not hb (by decide) (by decide) (by decide)
theorem sread_none (h : Sto w0 w s M most bad L n) {nm : ByteArray} (hn : nm.size ≤ maxLen) (hg : getG SFile.name nm (L.map SRep.f) = none) : Calls Tryz.prog 139 #[.pointer (some ⟨s, 0, none⟩), .string nm] w fun e w' => e = .returned (.tuple #[.string ⟨#[]⟩, .bool false]) ∧ w' = w := by
  have := read_any h.store nm hn
  rw [get_f] at hg
  rwa [show getG SRep.nm nm L = none from Option.map_eq_none_iff.1 hg] at this
theorem sread_some (h : Sto w0 w s M most bad L n) {nm : ByteArray} (hn : nm.size ≤ maxLen) {f : SFile} (hg : getG SFile.name nm (L.map SRep.f) = some f) : Calls Tryz.prog 139 #[.pointer (some ⟨s, 0, none⟩), .string nm] w fun e w' => e = .returned (.tuple #[.string f.data, .bool true]) ∧ w' = w := by
  have := read_any h.store nm hn
  rw [get_f] at hg
  obtain ⟨r, hr, rfl⟩ := Option.map_eq_some_iff.1 hg
  rwa [hr] at this
theorem ssize_some (h : Sto w0 w s M most bad L n) {nm : ByteArray} (hn : nm.size ≤ maxLen) {f : SFile} (hg : getG SFile.name nm (L.map SRep.f) = some f) : Calls Tryz.prog 162 #[.pointer (some ⟨s, 0, none⟩), .string nm] w fun e w' => e = .returned (.tuple #[.int .i64 (f.data.size : Nat), .int .i64 (f.sure : Nat)]) ∧ Keeps (fun _ => False) w w' := by
  have := size_any h.store nm hn
  rw [get_f] at hg
  obtain ⟨r, hr, rfl⟩ := Option.map_eq_some_iff.1 hg
  rwa [hr] at this
theorem ssize_none (h : Sto w0 w s M most bad L n) {nm : ByteArray} (hn : nm.size ≤ maxLen) (hg : getG SFile.name nm (L.map SRep.f) = none) : Calls Tryz.prog 162 #[.pointer (some ⟨s, 0, none⟩), .string nm] w fun e w' => e = .returned (.tuple #[.int .i64 0, .int .i64 0]) ∧ Keeps (fun _ => False) w w' := by
  have := size_any h.store nm hn
  rw [get_f] at hg
  rwa [show getG SRep.nm nm L = none from Option.map_eq_none_iff.1 hg] at this
end

end Go.Proofs.YtkmpdobojgiegaaGreatDoor

/-
  gens, plainly: names of generations, what each holds, and what a turn does. No program in sight.
-/
namespace Go.Proofs.YtkmpdobojgiegaaGreatDoor
open Go.RowKit Go.Maps

theorem digc_inj {a b : Nat} (ha : a < 10) (hb : b < 10) (h : digc a = digc b) : a = b := by
  have h1 := digc_nat ha
  have h2 := digc_nat hb
  rw [h] at h1
  omega
theorem decN_inj : ∀ {a b : Nat}, decN a = decN b → a = b := by
  intro a
  induction a using Nat.strongRecOn with
  | _ a ih =>
    intro b h
    by_cases ha : a < 10
    · by_cases hb : b < 10
      · rw [decN_small ha, decN_small hb] at h
        exact digc_inj ha hb (by simpa using h)
      · rw [decN_small ha, decN_big (n := b) (by omega)] at h
        have hl := congrArg List.length h
        have h2 := decN_pos (b / 10)
        rw [List.length_append, List.length_cons, List.length_cons, List.length_nil] at hl
        omega
    · by_cases hb : b < 10
      · rw [decN_small hb, decN_big (n := a) (by omega)] at h
        have hl := congrArg List.length h
        have h2 := decN_pos (a / 10)
        rw [List.length_append, List.length_cons, List.length_cons, List.length_nil] at hl
        omega
      · rw [decN_big (n := a) (by omega), decN_big (n := b) (by omega)] at h
        obtain ⟨h1, h2⟩ := List.append_inj' h rfl
        have e1 := ih (a / 10) (by omega) h1
        have e2 := digc_inj (Nat.mod_lt _ (by omega)) (Nat.mod_lt _ (by omega)) (by simpa using h2)
        omega

/-! lists by name: what stands where behind a put or a delete -/
section
variable {α : Type} {nm : α → ByteArray}
theorem get_iff {l : List α} (h : Rise nm l) {n : ByteArray} {x : α} : getG nm n l = some x ↔ x ∈ l ∧ nm x = n :=
  ⟨getG_some, fun ⟨h1, h2⟩ => by rw [← h2]; exact getG_of_mem h h1⟩
theorem get_no {l : List α} {n : ByteArray} : getG nm n l = none ↔ ∀ y ∈ l, nm y ≠ n :=
  ⟨getG_ne, fun h => List.find?_eq_none.2 fun y hy => by simpa using h y hy⟩
theorem get_same {l l' : List α} (_h : Rise nm l) (h' : Rise nm l') {n : ByteArray} (he : ∀ x, nm x = n → (x ∈ l ↔ x ∈ l')) : getG nm n l = getG nm n l' := by
  cases hg : getG nm n l with
  | some x =>
    obtain ⟨h1, h2⟩ := getG_some hg
    exact ((get_iff h').2 ⟨(he x h2).1 h1, h2⟩).symm
  | none =>
    refine (get_no.2 fun y hy e => ?_).symm
    exact get_no.1 hg y ((he y e).2 hy) e
theorem get_del_ne {l : List α} (h : Rise nm l) {n m : ByteArray} (hne : n ≠ m) : getG nm n (delG nm m l) = getG nm n l :=
  get_same (delG_rise h m) h fun x hx => by
    rw [delG_mem]
    exact ⟨fun h => h.1, fun h => ⟨h, fun e => hne (hx.symm.trans e)⟩⟩
theorem get_del_eq {l : List α} {n : ByteArray} : getG nm n (delG nm n l) = none := get_no.2 delG_ne
theorem get_put_eq {l : List α} (h : Rise nm l) (x : α) : getG nm (nm x) (putG nm x l) = some x :=
  (get_iff (putG_rise h x)).2 ⟨insG_mem.2 (.inl rfl), rfl⟩
theorem get_put_ne {l : List α} (h : Rise nm l) {x : α} {n : ByteArray} (hne : n ≠ nm x) : getG nm n (putG nm x l) = getG nm n l :=
  get_same (putG_rise h x) h fun y hy => by
    unfold putG
    rw [insG_mem, delG_mem]
    constructor
    · rintro (rfl | h)
      · exact absurd hy.symm hne
      · exact h.1
    · intro h
      exact .inr ⟨h, fun e => hne (hy.symm.trans e)⟩
end

/-! generations -/
def genName (base : ByteArray) (i : Int) : ByteArray := if i ≤ 0 then base else base ++ (⟨#[46]⟩ : ByteArray) ++ str (dec i)
theorem genName_zero {base : ByteArray} {i : Int} (h : i ≤ 0) : genName base i = base := by unfold genName; rw [if_pos h]
theorem genName_pos {base : ByteArray} {i : Int} (h : 0 < i) : genName base i = base ++ (⟨#[46]⟩ : ByteArray) ++ str (dec i) := by unfold genName; rw [if_neg (by omega)]
theorem cat_list (a b : ByteArray) : (a ++ b).data.toList = a.data.toList ++ b.data.toList := by simp
theorem genName_list {base : ByteArray} {i : Int} (h : 0 < i) : (genName base i).data.toList = base.data.toList ++ 46 :: decN i.toNat := by
  rw [genName_pos h, cat_list, cat_list, dec_pos (by omega), List.append_assoc]; rfl
theorem genName_inj {base : ByteArray} {i k : Int} : genName base i = genName base k ↔ max 0 i = max 0 k := by
  constructor
  · intro h
    have hl : (genName base i).data.toList = (genName base k).data.toList := by rw [h]
    by_cases hi : i ≤ 0
    · by_cases hk : k ≤ 0
      · omega
      · rw [genName_zero hi, genName_list (by omega)] at hl
        have := congrArg List.length hl
        simp at this
    · by_cases hk : k ≤ 0
      · rw [genName_zero hk, genName_list (by omega)] at hl
        have := congrArg List.length hl
        simp at this
      · rw [genName_list (by omega), genName_list (by omega)] at hl
        have h1 := List.append_cancel_left hl
        injection h1 with _ h1
        have := decN_inj h1
        omega
  · intro h
    by_cases hi : i ≤ 0
    · rw [genName_zero hi, genName_zero (by omega)]
    · have : i = k := by omega
      rw [this]
theorem genName_ne {base : ByteArray} {i k : Nat} (h : i ≠ k) : genName base i ≠ genName base k := fun e => by
  have := genName_inj.1 e
  omega
theorem genName_size {base : ByteArray} {i : Int} (h : i ≤ 9223372036854775807) : (genName base i).size ≤ base.size + 20 := by
  have e : ∀ b : ByteArray, b.size = b.data.toList.length := fun b => by simp
  by_cases hi : i ≤ 0
  · rw [genName_zero hi]; omega
  · rw [e, genName_list (by omega), List.length_append, List.length_cons, ← e base]
    have := decN_le (n := i.toNat) (by omega)
    omega

def heldP (n : Int) : Nat := (max 1 (min n 16)).toNat
theorem heldP_le (n : Int) : 1 ≤ heldP n ∧ heldP n ≤ 16 := by unfold heldP; omega
/-- k-1, .., 0 -/
def downs (k : Nat) : List Nat := (List.range k).reverse
theorem downs_succ (k : Nat) : downs (k + 1) = k :: downs k := by unfold downs; rw [List.range_succ, List.reverse_append]; rfl
def genF (l : List SFile) (base : ByteArray) (i : Nat) : Option SFile := getG SFile.name (genName base i) l
def namesP (l : List SFile) (base : ByteArray) (k : Nat) : List ByteArray := (downs k).filterMap fun i => (genF l base i).map fun _ => genName base i
def allP (l : List SFile) (base : ByteArray) (k : Nat) : List ByteArray := (downs k).filterMap fun i => (genF l base i).map SFile.data
theorem namesP_succ (l : List SFile) (base : ByteArray) (k : Nat) : namesP l base (k + 1) = (match genF l base k with | some _ => [genName base k] | none => []) ++ namesP l base k := by
  unfold namesP
  rw [downs_succ]
  cases hg : genF l base k with
  | none => rw [List.filterMap_cons_none (by rw [hg]; rfl)]; rfl
  | some f => rw [List.filterMap_cons_some (by rw [hg]; rfl)]; rfl
theorem allP_succ (l : List SFile) (base : ByteArray) (k : Nat) : allP l base (k + 1) = (match genF l base k with | some f => [f.data] | none => []) ++ allP l base k := by
  unfold allP
  rw [downs_succ]
  cases hg : genF l base k with
  | none => rw [List.filterMap_cons_none (by rw [hg]; rfl)]; rfl
  | some f => rw [List.filterMap_cons_some (by rw [hg]; rfl)]; rfl
theorem allP_len (l : List SFile) (base : ByteArray) (k : Nat) : (allP l base k).length ≤ k := by
  unfold allP
  refine Nat.le_trans (List.length_filterMap_le _ _) ?_
  unfold downs; simp
theorem namesP_len (l : List SFile) (base : ByteArray) (k : Nat) : (namesP l base k).length ≤ k := by
  unfold namesP
  refine Nat.le_trans (List.length_filterMap_le _ _) ?_
  unfold downs; simp
/-- what the names tell is what all tell -/
theorem names_all (l : List SFile) (base : ByteArray) (k : Nat) : (namesP l base k).map (fun nm => match getG SFile.name nm l with | some f => f.data | none => ⟨#[]⟩) = allP l base k := by
  induction k with
  | zero => rfl
  | succ k ih =>
    rw [namesP_succ, allP_succ, List.map_append, ih]
    congr 1
    cases hg : genF l base k with
    | none => rfl
    | some f => unfold genF at hg; simp only [List.map_cons, List.map_nil, hg]
/-! a turn -/
def turnL (base : ByteArray) : List Nat → Nat → List SFile → Int × Nat × List SFile
  | [], bad, l => (0, bad, l)
  | i :: r, bad, l => match genF l base i with
    | none => turnL base r bad l
    | some _ => if (renameP bad l (genName base i) (genName base (i + 1 : Nat))).1 ≠ 0 then renameP bad l (genName base i) (genName base (i + 1 : Nat)) else turnL base r (renameP bad l (genName base i) (genName base (i + 1 : Nat))).2.1 (renameP bad l (genName base i) (genName base (i + 1 : Nat))).2.2
def goneP (base : ByteArray) (j bad : Nat) (l : List SFile) : Int × Nat × List SFile := match genF l base j with
  | none => (0, bad, l)
  | some _ => removeP bad l (genName base j)
/-- of j + 1 generations -/
def turnP (base : ByteArray) (j bad : Nat) (l : List SFile) : Int × Nat × List SFile :=
  if (goneP base j bad l).1 ≠ 0 then goneP base j bad l else turnL base (downs j) (goneP base j bad l).2.1 (goneP base j bad l).2.2

section
variable {base : ByteArray} {l : List SFile} {bad : Nat}
theorem remove_ok {nm : ByteArray} {f : SFile} (hn : namedP nm = true) (hg : getG SFile.name nm l = some f) : removeP 0 l nm = (0, 0, delG SFile.name nm l) := by
  have hb : beginC 0 nm = (0, 0) := by unfold beginC; rw [if_pos hn, if_neg (by omega)]
  unfold removeP
  rw [hb, if_neg (by simp), hg]
theorem rename_ok {nm nt : ByteArray} {f : SFile} (hn : namedP nm = true) (ht : namedP nt = true) (hg : getG SFile.name nm l = some f) : renameP 0 l nm nt = (0, 0, putG SFile.name ⟨nt, f.data, f.sure⟩ (delG SFile.name nm l)) := by
  have hb : beginC 0 nm = (0, 0) := by unfold beginC; rw [if_pos hn, if_neg (by omega)]
  unfold renameP
  rw [hb, if_neg (by simp), if_neg (by rw [ht]; simp), hg]
/-- a generation's file, but for its name -/
def genV (l : List SFile) (base : ByteArray) (i : Nat) : Option (ByteArray × Nat) := (genF l base i).map fun f => (f.data, f.sure)
theorem genV_none {i : Nat} : genV l base i = none ↔ genF l base i = none := by unfold genV; cases genF l base i <;> simp
theorem turnL_ok (hnm : ∀ i : Nat, i ≤ 16 → namedP (genName base i) = true) : ∀ (j : Nat) (l : List SFile), j ≤ 16 → Rise SFile.name l → genF l base j = none →
    (turnL base (downs j) 0 l).1 = 0 ∧ (turnL base (downs j) 0 l).2.1 = 0 ∧ Rise SFile.name (turnL base (downs j) 0 l).2.2 ∧
      (∀ i, i < j → genV (turnL base (downs j) 0 l).2.2 base (i + 1) = genV l base i) ∧ genV (turnL base (downs j) 0 l).2.2 base 0 = none ∧
      (∀ nm, (∀ i : Nat, i ≤ j → nm ≠ genName base i) → getG SFile.name nm (turnL base (downs j) 0 l).2.2 = getG SFile.name nm l)
  | 0, l, _, hr, h0 => ⟨rfl, rfl, hr, fun i hi => by omega, genV_none.2 h0, fun _ _ => rfl⟩
  | j + 1, l, hj, hr, h0 => by
    rw [downs_succ]
    unfold turnL
    cases hg : genF l base j with
    | none =>
      obtain ⟨a1, a2, a3, a4, a5, a6⟩ := turnL_ok hnm j l (by omega) hr hg
      refine ⟨a1, a2, a3, fun i hi => ?_, a5, fun nm hh => a6 nm fun i hi => hh i (by omega)⟩
      by_cases e : i = j
      · subst e
        rw [genV_none.2 hg, genV_none]
        unfold genF
        rw [a6 _ (fun k hk => genName_ne (by omega))]
        exact h0
      · exact a4 i (by omega)
    | some f =>
      have hfn := (getG_some hg).2
      have hro := rename_ok (hnm j (by omega)) (hnm (j + 1) (by omega)) hg
      simp only [hro]
      rw [if_neg (by simp)]
      obtain ⟨l1, hl1⟩ : ∃ l1, l1 = putG SFile.name ⟨genName base (j + 1 : Nat), f.data, f.sure⟩ (delG SFile.name (genName base j) l) := ⟨_, rfl⟩
      rw [← hl1]
      have hr1 : Rise SFile.name l1 := by rw [hl1]; exact putG_rise (delG_rise hr _) _
      have g1 : ∀ nm, nm ≠ genName base (j + 1 : Nat) → nm ≠ genName base j → getG SFile.name nm l1 = getG SFile.name nm l := fun nm h1 h2 => by
        rw [hl1, get_put_ne (delG_rise hr _) h1, get_del_ne hr h2]
      have g2 : genF l1 base j = none := by
        unfold genF
        rw [hl1, get_put_ne (delG_rise hr _) (genName_ne (i := j) (k := j + 1) (by omega)), get_del_eq]
      have g3 : getG SFile.name (genName base (j + 1 : Nat)) l1 = some ⟨genName base (j + 1 : Nat), f.data, f.sure⟩ := by
        rw [hl1]
        exact get_put_eq (delG_rise hr _) ⟨genName base (j + 1 : Nat), f.data, f.sure⟩
      obtain ⟨a1, a2, a3, a4, a5, a6⟩ := turnL_ok hnm j l1 (by omega) hr1 g2
      refine ⟨a1, a2, a3, fun i hi => ?_, a5, fun nm hh => ?_⟩
      · by_cases e : i = j
        · subst e
          unfold genV genF
          rw [a6 _ (fun k hk => genName_ne (by omega)), g3]
          unfold genF at hg
          rw [hg]
          rfl
        · rw [a4 i (by omega)]
          unfold genV genF
          rw [g1 _ (genName_ne (by omega)) (genName_ne (by omega))]
      · rw [a6 nm fun i hi => hh i (by omega)]
        exact g1 nm (hh _ (by omega)) (hh _ (by omega))
/-- no call fails: each is one older, the oldest gone -/
theorem turn_ok (hnm : ∀ i : Nat, i ≤ 16 → namedP (genName base i) = true) (j : Nat) (hj : j ≤ 16) (hr : Rise SFile.name l) :
    (turnP base j 0 l).1 = 0 ∧ (turnP base j 0 l).2.1 = 0 ∧ Rise SFile.name (turnP base j 0 l).2.2 ∧
      (∀ i, i < j → genV (turnP base j 0 l).2.2 base (i + 1) = genV l base i) ∧ genV (turnP base j 0 l).2.2 base 0 = none ∧
      (∀ nm, (∀ i : Nat, i ≤ j → nm ≠ genName base i) → getG SFile.name nm (turnP base j 0 l).2.2 = getG SFile.name nm l) := by
  have hgone : ∃ l1, goneP base j 0 l = (0, 0, l1) ∧ Rise SFile.name l1 ∧ genF l1 base j = none ∧ ∀ nm, nm ≠ genName base j → getG SFile.name nm l1 = getG SFile.name nm l := by
    unfold goneP
    cases hg : genF l base j with
    | none => exact ⟨l, rfl, hr, hg, fun _ _ => rfl⟩
    | some f => exact ⟨_, remove_ok (hnm j hj) hg, delG_rise hr _, get_del_eq, fun nm h => get_del_ne hr h⟩
  obtain ⟨l1, e1, hr1, g1, g2⟩ := hgone
  unfold turnP
  rw [e1, if_neg (by simp)]
  obtain ⟨a1, a2, a3, a4, a5, a6⟩ := turnL_ok hnm j l1 hj hr1 g1
  refine ⟨a1, a2, a3, fun i hi => ?_, a5, fun nm hh => ?_⟩
  · rw [a4 i hi]
    unfold genV genF
    rw [g2 _ (genName_ne (by omega))]
  · rw [a6 nm hh, g2 nm (hh j (by omega))]
end
end Go.Proofs.YtkmpdobojgiegaaGreatDoor

/-
  gens: names of generations, which there are, and what each holds, over a store.
-/
namespace Go.Proofs.YtkmpdobojgiegaaGreatDoor
open Go.RowKit Go.Maps

theorem str_dot (b : ByteArray) : (b ++ (⟨#[46]⟩ : ByteArray)).size = b.size + 1 := by simp [ByteArray.size_append]; rfl
set_option maxRecDepth 100000 in
theorem gname_any (w : World) (base : ByteArray) (i : Int) (hb : base.size ≤ 1048576) (h1 : -9223372036854775808 ≤ i) (h2 : i ≤ 9223372036854775807) :
    Calls Tryz.prog 141 #[.string base, .int .i64 i] w fun e w' => e = .returned (.string (genName base i)) ∧ Keeps (fun _ => False) w w' := by
  by_cases hi : i ≤ 0
  · have HG := Lib.hid (genName_zero (base := base) hi)
    go_enter Tryz.func141, Tryz.ntmps141
    go_wp2_with fail
    go_ret
    exact ⟨by rw [HG.out]; rfl, Keeps.refl _ _⟩
  · have HG := Lib.hid (genName_pos (base := base) (i := i) (by omega))
    have hd := dec_le h1 h2
    have hs := str_size (dec i)
    have hs2 : (str (dec i)).size ≤ 20 := by rw [hs]; exact hd
    have hds := str_dot base
    have hds2 : (base ++ (⟨#[46]⟩ : ByteArray)).size ≤ 1048577 := by omega
    have HP := Lib.hid (put_any w i h1 h2)
    clear hd hs hds
    go_enter Tryz.func141, Tryz.ntmps141
    go_wp2_with fail
    refine HP.out.mono ?_
    rintro e w1 ⟨rfl, k⟩
    have HK := Lib.hid k
    clear k
    go_wp2_with fail
    go_ret
    exact ⟨by rw [HG.out]; rfl, HK.out⟩
set_option maxRecDepth 100000 in
theorem rgname_any (w : World) (base : ByteArray) (i : Int) (hb : base.size ≤ 1048576) (h1 : -9223372036854775808 ≤ i) (h2 : i ≤ 9223372036854775807) :
    Calls Tryz.prog 121 #[.string base, .int .i64 i] w fun e w' => e = .returned (.string (genName base i)) ∧ Keeps (fun _ => False) w w' := by
  by_cases hi : i ≤ 0
  · have HG := Lib.hid (genName_zero (base := base) hi)
    go_enter Tryz.func121, Tryz.ntmps121
    go_wp2_with fail
    go_ret
    exact ⟨by rw [HG.out]; rfl, Keeps.refl _ _⟩
  · have HG := Lib.hid (genName_pos (base := base) (i := i) (by omega))
    have hd := dec_le h1 h2
    have hs := str_size (dec i)
    have hs2 : (str (dec i)).size ≤ 20 := by rw [hs]; exact hd
    have hds := str_dot base
    have hds2 : (base ++ (⟨#[46]⟩ : ByteArray)).size ≤ 1048577 := by omega
    have HP := Lib.hid (rput_any i.natAbs w i (Nat.le_refl _) h1 h2)
    clear hd hs hds
    go_enter Tryz.func121, Tryz.ntmps121
    go_wp2_with fail
    refine HP.out.mono ?_
    rintro e w1 ⟨rfl, k⟩
    have HK := Lib.hid k
    clear k
    go_wp2_with fail
    go_ret
    exact ⟨by rw [HG.out]; rfl, HK.out⟩
theorem held_any (w : World) (n : Int) : Calls Tryz.prog 140 #[.int .i64 n] w fun e w' => e = .returned (.int .i64 (heldP n : Nat)) ∧ w' = w := by
  have hh : ((heldP n : Nat) : Int) = max 1 (min n 16) := by unfold heldP; omega
  have HH := Lib.hid hh
  clear hh
  go_enter Tryz.func140, Tryz.ntmps140
  go_wp2_with fail
  go_ret
  exact ⟨by rw [HH.out]; rfl, rfl⟩

section
variable [Res] {w0 w w' : World} {s M bad n : Nat} {most : Int} {L : List SRep}
set_option maxRecDepth 100000 in
set_option maxHeartbeats 1000000 in
theorem gnames_any (h : Sto w0 w s M most bad L n) (base : ByteArray) (k : Int) (hb : base.size ≤ 1048576) :
    Calls Tryz.prog 70 #[.pointer (some ⟨s, 0, none⟩), .string base, .int .i64 k] w fun e w' => (∃ v, e = .returned v ∧ OwnL w' w.heap.size 9 v ((namesP (L.map SRep.f) base (heldP k)).map Value.string)) ∧ Keeps (fun _ => False) w w' := by
  obtain ⟨l, hl⟩ : ∃ l, l = L.map SRep.f := ⟨_, rfl⟩
  have HL := Lib.hid hl
  rw [← hl]
  have H := Lib.hid h
  obtain ⟨q1, q2⟩ := heldP_le k
  obtain ⟨q, hq⟩ : ∃ q, q = heldP k := ⟨_, rfl⟩
  have HQ := Lib.hid hq
  rw [← hq] at q1 q2 ⊢
  clear hl h hq
  go_enter Tryz.func70, Tryz.ntmps70
  go_wp2_with fail
  refine (held_any _ k).mono ?_
  rw [← HQ.out]
  rintro e w1 ⟨rfl, hw⟩
  obtain rfl : w = w1 := hw.symm
  go_wp2_with fail
  go_loopw [7, 8] (fun u7 u8 wr => ∃ (j : Nat) (vs : List ByteArray), u8 = .int .i64 ((j : Int) - 1) ∧ j ≤ 16 ∧ Hid (vs ++ namesP l base j = namesP l base q ∧ OwnL wr w.heap.size 9 u7 (vs.map Value.string) ∧ Keeps (fun _ => False) w wr)) (fun _ u8 _ => (intOf u8 + 1).toNat)
  case atStart => exact ⟨q, [], by first | rfl | go_num, by omega, Lib.hid ⟨rfl, OwnL.none_ _ _ _, Keeps.refl _ _⟩⟩
  case round =>
    obtain ⟨j, vs, rfl, hj, HI⟩ := hrel
    rename World => wr
    rcases j with _ | j
    · have hh := HI.out.1
      rw [show namesP l base 0 = [] from rfl, List.append_nil] at hh
      have HH := Lib.hid hh
      clear hh
      go_wp2_with fail
      go_ret
      exact ⟨⟨u7, rfl, by rw [← HH.out]; exact HI.out.2.1⟩, HI.out.2.2⟩
    · have ej : ((j + 1 : Nat) : Int) - 1 = (j : Int) := by omega
      rw [ej]
      have hsz := genName_size (base := base) (i := j) (by omega)
      have hsu := namesP_succ l base j
      have hvl : vs.length ≤ 16 := by
        have h1 := congrArg List.length HI.out.1
        rw [List.length_append] at h1
        have h2 := namesP_len l base q
        omega
      have HSU := Lib.hid hsu
      clear ej hsu
      go_wp2_with fail
      refine (gname_any _ base j hb (by omega) (by omega)).mono ?_
      rintro e w2 ⟨rfl, k2⟩
      have HS2 := Lib.hid (H.out.same (HI.out.2.2.trans k2))
      have HO2 := Lib.hid (HI.out.2.1.keeps k2 (fun _ _ _ => id))
      have HK2 := Lib.hid (HI.out.2.2.trans k2)
      clear k2
      obtain ⟨nm, hnm⟩ : ∃ nm, nm = genName base (j : Nat) := ⟨_, rfl⟩
      rw [← hnm] at hsz ⊢
      have HNM := Lib.hid hnm
      clear hnm
      cases hg : getG SFile.name nm l with
      | none =>
        have hgf : genF l base j = none := by unfold genF; rw [← HNM.out]; exact hg
        have hrr := sread_none HS2.out (nm := nm) (by unfold maxLen; omega) (by rw [← HL.out]; exact hg)
        have HRR := Lib.hid hrr
        have HGF := Lib.hid hgf
        clear hg hrr hgf
        go_wp2_with fail
        refine HRR.out.mono ?_
        rintro e w3 ⟨rfl, hw⟩
        obtain rfl : w2 = w3 := hw.symm
        go_wp2_with fail
        go_roundw
        case rel => exact ⟨j, vs, by go_num, by omega, Lib.hid ⟨by have := HI.out.1; rw [HSU.out, HGF.out] at this; exact this, HO2.out, HK2.out⟩⟩
        case measure => simp [intOf]
      | some f =>
        have hgf : genF l base j = some f := by unfold genF; rw [← HNM.out]; exact hg
        have hrr := sread_some HS2.out (nm := nm) (by unfold maxLen; omega) (by rw [← HL.out]; exact hg)
        have HRR := Lib.hid hrr
        have HGF := Lib.hid hgf
        clear hg hrr hgf
        have hsz2 := HK2.out.size
        go_wp2_with fail
        refine HRR.out.mono ?_
        rintro e w3 ⟨rfl, hw⟩
        obtain rfl : w2 = w3 := hw.symm
        go_wp2_with (with_reducible show wpList _ _ _ (⟨some 32, _, _, _, _, _⟩ :: _) _ _; go_must (refine wpList_append_onet rfl (.tmp 29) (.tmp 31) 69 rfl w.heap.size 9 (.string ⟨#[]⟩) 16 Tryz.underlying69 (by kernel_rfl) rfl (by omega) u7 (vs.map Value.string) rfl (OwnL.keeps (S := fun _ => False) HO2.out ((Keeps.refl _ _).alloc _) (fun _ _ _ => id)) ⟨w2.heap.size, 0, none⟩ 1 (.string nm) rfl (by go_simp) rfl (by rw [List.length_map]; omega) (by simp; omega) ?_; intro v7 w7 O7 k7; have HO7 := Lib.hid O7; have HK7 := Lib.hid (Keeps.and_ (S := fun _ => False) (HK2.out.alloc _) k7 (fun i hi e => by have := e.1; omega)); clear O7 k7))
        go_roundw
        case rel => exact ⟨j, vs ++ [nm], by go_num, by omega, Lib.hid ⟨by have := HI.out.1; rw [HSU.out, HGF.out] at this; rw [← this, HNM.out]; simp, by rw [List.map_append]; exact HO7.out, HK7.out⟩⟩
        case measure => simp [intOf]

/-- what a name's file holds, or nothing -/
def heldD (l : List SFile) (nm : ByteArray) : ByteArray := match getG SFile.name nm l with | some f => f.data | none => ⟨#[]⟩
theorem sread_val (h : Sto w0 w s M most bad L n) {nm : ByteArray} (hn : nm.size ≤ maxLen) : Calls Tryz.prog 139 #[.pointer (some ⟨s, 0, none⟩), .string nm] w fun e w' => (∃ ok, e = .returned (.tuple #[.string (heldD (L.map SRep.f) nm), .bool ok])) ∧ w' = w := by
  unfold heldD
  cases hg : getG SFile.name nm (L.map SRep.f) with
  | none => exact (sread_none h hn hg).mono fun _ _ ⟨he, hw⟩ => ⟨⟨false, he⟩, hw⟩
  | some f => exact (sread_some h hn hg).mono fun _ _ ⟨he, hw⟩ => ⟨⟨true, he⟩, hw⟩
omit [Res] in
set_option maxRecDepth 100000 in
/-- the closure that gathers -/
theorem all1_any (w : World) (B0 B1 : Nat) (v : Value) (vs : List ByteArray) (b : ByteArray) (hb : Blk w B0 69 #[v]) (ho : OwnL w B1 9 v (vs.map Value.string)) (hB : B1 ≤ w.heap.size) (hlt : B0 < B1) (hl : vs.length ≤ 1048576) :
    Calls Tryz.prog 69 #[.string b, .pointer (some ⟨B0, 0, none⟩)] w fun e w' => e = .returned (.tuple #[]) ∧ (∃ v', Blk w' B0 69 #[v'] ∧ OwnL w' B1 9 v' ((vs ++ [b]).map Value.string)) ∧ Keeps (fun i => i = B0 ∨ B1 ≤ i) w w' := by
  have c0 := hb.cell 0
  have f0 := hb.frozen 0
  simp only [List.getElem?_toArray, List.getElem?_cons_zero] at c0
  have HB := Lib.hid hb
  have HO := Lib.hid ho
  have hB0 := hb.lt
  clear hb ho
  go_enter Tryz.func69, Tryz.ntmps69
  go_wp2_with (with_reducible show wpList _ _ _ (⟨some 6, _, _, _, _, _⟩ :: _) _ _; go_must (refine wpList_append_onet rfl (.tmp 3) (.tmp 5) 69 rfl B1 9 (.string ⟨#[]⟩) 16 Tryz.underlying69 (by kernel_rfl) rfl (by omega) v (vs.map Value.string) rfl (OwnL.keeps (S := fun _ => False) HO.out ((Keeps.refl _ _).alloc _) (fun _ _ _ => id)) ⟨w.heap.size, 0, none⟩ 1 (.string b) rfl (by go_simp) rfl (by rw [List.length_map]; omega) (by simp; omega) ?_; intro v7 w7 O7 k7; obtain ⟨av7, cv7, hv7⟩ := O7.sl'; obtain ⟨n7, hn7⟩ : ∃ n7, n7 = (vs.map Value.string ++ [Value.string b]).length := ⟨_, rfl⟩; rw [← hn7] at hv7; subst hv7; clear hn7; have kk := Keeps.and_ (S := fun i => B1 ≤ i) ((Keeps.refl _ w).alloc _) k7 (fun i hi e => e.1); have hb7 := HB.out.keeps kk (by omega); have c7 := hb7.cell 0; have f7 := hb7.frozen 0; have HB7 := Lib.hid hb7; have HO7 := Lib.hid O7; have HK7 := Lib.hid kk; clear O7 k7 kk hb7))
  refine bodyPost_end (results_none rfl _ _ _) rfl ⟨rfl, ⟨_, HB7.out.set_ 0 _, ?_⟩, ?_⟩
  · rw [List.map_append]
    exact OwnL.keeps (S := fun i => i = B0) HO7.out ((Keeps.refl (fun i => i = B0) w7).setCell (fun _ => rfl) _) (fun i hi _ e => by omega)
  · exact (HK7.out.mono fun i _ e => .inr e).trans (((Keeps.refl (fun i => i = B0) w7).setCell (fun _ => rfl) _).mono fun i _ e => .inl e)
end
end Go.Proofs.YtkmpdobojgiegaaGreatDoor

/-
  gens: All (what each generation holds), over a store.
-/
namespace Go.Proofs.YtkmpdobojgiegaaGreatDoor
open Go.RowKit Go.Maps

section
variable [Res] {w0 w w' : World} {s M bad n : Nat} {most : Int} {L : List SRep}
omit [Res] in
theorem Keeps.inner {B1 : Nat} {S : Nat → Prop} {a b : World} (h : Keeps (fun i => S i ∨ B1 ≤ i) a b) (hB : a.heap.size ≤ B1) : Keeps S a b := h.mono fun i hi e => e.elim id (fun e => by omega)
set_option maxRecDepth 100000 in
set_option maxHeartbeats 1000000 in
theorem each_any (h : Sto w0 w s M most bad L n) (B0 : Nat) (a : Option Addr) (m c : Nat) (ns : List ByteArray) (hs : SlAt strR 1 w a m ns) (hsb : ∀ nm ∈ ns, nm.size ≤ maxLen) (hm : m ≤ 1048576)
    (hb : Blk w B0 69 #[.slice none 0 0]) (hlo : w0.heap.size ≤ B0) (hfar : 0 < m → ∀ g, a = some g → g.block ≠ B0) :
    Calls Tryz.prog 68 #[.pointer (some ⟨s, 0, none⟩), .func (.func 69) #[] #[.pointer (some ⟨B0, 0, none⟩)], .slice a m c] w fun e w' => e = .returned (.tuple #[]) ∧ (∃ v', Blk w' B0 69 #[v'] ∧ OwnL w' w.heap.size 9 v' ((ns.map (heldD (L.map SRep.f))).map Value.string)) ∧ Keeps (fun i => i = B0) w w' := by
  obtain ⟨l, hl⟩ : ∃ l, l = L.map SRep.f := ⟨_, rfl⟩
  have HL := Lib.hid hl
  rw [← hl]
  have H := Lib.hid h
  have HS := Lib.hid hs
  have HSB := Lib.hid hsb
  have HB := Lib.hid hb
  have HFAR := Lib.hid hfar
  have HNL := Lib.hid hs.1
  have hB0 := hb.lt
  clear hl h hs hsb hb hfar
  have hset : ∀ wr, Keeps (fun i => i = B0 ∨ w.heap.size ≤ i) w wr → Sto w0 wr s M most bad L n := fun wr k => H.out.beside (k.inner (S := fun i => i = B0) (Nat.le_refl _)) fun i e => by subst e; exact ⟨hlo, _, _, HB.out, by decide, by decide, by decide⟩
  have HSET := Lib.hid hset
  clear hset
  go_enter Tryz.func68, Tryz.ntmps68
  go_wp2_with fail
  go_loopw [12] (fun u12 wr => ∃ (i : Nat) (v : Value), u12 = .int .i64 i ∧ Hid (i ≤ m ∧ Blk wr B0 69 #[v] ∧ OwnL wr w.heap.size 9 v (((ns.take i).map (heldD l)).map Value.string) ∧ Keeps (fun i => i = B0 ∨ w.heap.size ≤ i) w wr)) (fun u12 _ => m - (intOf u12).toNat)
  case atStart => exact ⟨0, _, rfl, Lib.hid ⟨Nat.zero_le _, HB.out, OwnL.none_ _ _ _, Keeps.refl _ _⟩⟩
  case round =>
    obtain ⟨i, v, rfl, HI⟩ := hrel
    rename World => wr
    by_cases hi : i < m
    · obtain ⟨nm, hnm⟩ : ∃ nm, ns[i]? = some nm := ⟨_, List.getElem?_eq_getElem (by rw [HNL.out]; exact hi)⟩
      obtain ⟨b, off, rfl, hblt, hcc⟩ := HS.out.2 (by omega)
      have hbn : b ≠ B0 := HFAR.out (by omega) _ rfl
      have hcell := hcc i nm 0 (.string nm) hnm rfl
      rw [Nat.mul_one, Nat.add_zero] at hcell
      have hc2 : wr.cell? ⟨b, off + i, none⟩ = some (.string nm) := by
        rw [World.cell?_of_block (w := w) (HI.out.2.2.2.block b hblt (fun e => e.elim hbn (fun e => by omega)))]; exact hcell
      have hsto := HSET.out wr HI.out.2.2.2
      have hrd := sread_val hsto (nm := nm) (HSB.out nm (List.mem_of_getElem? hnm))
      rw [← HL.out] at hrd
      have htk := take_snoc10 hnm
      have HRD := Lib.hid hrd
      have HTK := Lib.hid htk
      have hbl2 : b < wr.heap.size := Nat.lt_of_lt_of_le hblt HI.out.2.2.2.size
      have hw2 := HI.out.2.2.2.size
      clear hnm hcc hcell hsto hrd htk
      go_wp2_with fail
      refine HRD.out.mono ?_
      rintro e w2 ⟨⟨ok, rfl⟩, hw⟩
      obtain rfl : wr = w2 := hw.symm
      go_wp2_with fail
      refine (all1_any wr B0 w.heap.size v ((ns.take i).map (heldD l)) (heldD l nm) HI.out.2.1 HI.out.2.2.1 hw2 hB0 (by rw [List.length_map, List.length_take]; omega)).mono ?_
      rintro e w3 ⟨rfl, ⟨v3, hb3, ho3⟩, k3⟩
      have HB3 := Lib.hid hb3
      have HO3 := Lib.hid ho3
      have HK3 := Lib.hid (HI.out.2.2.2.trans k3)
      clear hb3 ho3 k3
      go_wp2_with fail
      go_roundw
      case rel => exact ⟨i + 1, v3, by go_num, Lib.hid ⟨by omega, HB3.out, by rw [HTK.out, List.map_append]; exact HO3.out, HK3.out⟩⟩
      case measure => simp [intOf]; omega
    · have hh := HI.out.2.2.1
      rw [List.take_of_length_le (by rw [HNL.out]; omega)] at hh
      have HH := Lib.hid hh
      clear hh
      go_wp2_with fail
      refine bodyPost_end (results_none rfl _ _ _) rfl ⟨rfl, ⟨v, HI.out.2.1, HH.out⟩, HI.out.2.2.2.inner (S := fun i => i = B0) (Nat.le_refl _)⟩

omit [Res] in
theorem names_held (l : List SFile) (base : ByteArray) (k : Nat) : (namesP l base k).map (heldD l) = allP l base k := names_all l base k
set_option maxRecDepth 100000 in
set_option maxHeartbeats 1000000 in
theorem gall_any (h : Sto w0 w s M most bad L n) (base : ByteArray) (k : Int) (hb : base.size ≤ 1048576) :
    Calls Tryz.prog 19 #[.pointer (some ⟨s, 0, none⟩), .string base, .int .i64 k] w fun e w' => (∃ v, e = .returned v ∧ OwnL w' w.heap.size 9 v ((allP (L.map SRep.f) base (heldP k)).map Value.string)) ∧ Keeps (fun _ => False) w w' := by
  have hmf : ∀ (fn : Fn) (first cap : Array Value) (w : World), (Instr.makeFunc fn first cap).run Tryz.prog w = .ok (.func fn first cap) w := fun _ _ _ _ => rfl
  obtain ⟨l, hl⟩ : ∃ l, l = L.map SRep.f := ⟨_, rfl⟩
  have HL := Lib.hid hl
  rw [← hl]
  have H := Lib.hid h
  have hq := (heldP_le k).2
  have hnl := namesP_len l base (heldP k)
  obtain ⟨ns, hns⟩ : ∃ ns, ns = namesP l base (heldP k) := ⟨_, rfl⟩
  have hsb : ∀ nm ∈ ns, nm.size ≤ maxLen := fun nm hm => by
    rw [hns] at hm
    unfold namesP at hm
    obtain ⟨i, hi, he⟩ := List.mem_filterMap.1 hm
    cases hg : genF l base i with
    | none => rw [hg] at he; cases he
    | some f =>
      rw [hg] at he
      simp at he
      have hi2 : i < heldP k := by unfold downs at hi; simpa using hi
      have := genName_size (base := base) (i := i) (by omega)
      rw [← he]
      unfold maxLen
      omega
  have hlen : ns.length ≤ 16 := by rw [hns]; omega
  have hmap : ns.map (heldD l) = allP l base (heldP k) := by rw [hns]; exact names_held _ _ _
  have HSB := Lib.hid hsb
  have HMP := Lib.hid hmap
  have HNS := Lib.hid hns
  have hlo := h.keeps.size
  clear hl h hns hsb hmap hnl
  go_enter Tryz.func19, Tryz.ntmps19
  go_wp2_with fail
  have hgn := gnames_any (H.out.same ((Keeps.refl _ w).alloc (.cells #[.slice none 0 0] 69))) base k hb
  rw [← HL.out, ← HNS.out] at hgn
  refine hgn.mono ?_
  clear hgn
  rintro e w2 ⟨⟨v, rfl, hO⟩, k2⟩
  obtain ⟨na, nc, rfl⟩ := hO.sl'
  rw [List.length_map] at *
  have hsl := (slat_own hO).2
  have HB2 := Lib.hid ((Blk.new w 69 #[.slice none 0 0]).keeps k2 id)
  have HS2 := Lib.hid ((H.out.same ((Keeps.refl _ w).alloc (.cells #[.slice none 0 0] 69))).same k2)
  have hfar : ∀ g, na = some g → 0 < ns.length → g.block ≠ w.heap.size := fun g hg hp => by
    obtain ⟨a1, c1, hv, _, _, h1, _⟩ := hO.shape
    injection hv with e1 e2 e3
    subst e1
    obtain ⟨g', hg', hB, _⟩ := h1 (by rw [List.length_map]; exact hp)
    rw [hg] at hg'
    injection hg' with hg'
    subst hg'
    simp at hB
    simp; omega
  have HSL := Lib.hid hsl
  have HFAR := Lib.hid hfar
  have HK2 := Lib.hid k2
  clear hO hsl hfar k2
  go_wp2_with fail
  refine (each_any HS2.out w.heap.size na ns.length nc ns HSL.out HSB.out (by omega) HB2.out hlo (fun hp g hg => HFAR.out g hg hp)).mono ?_
  rw [← HL.out, HMP.out]
  rintro e w3 ⟨rfl, ⟨v3, hb3, ho3⟩, k3⟩
  have c0 := hb3.cell 0
  simp only [List.getElem?_toArray, List.getElem?_cons_zero] at c0
  have hz2 := HK2.out.size
  simp at hz2
  have HO3 := Lib.hid (ho3.more (B' := w.heap.size) (by omega))
  have HK3 := Lib.hid (Keeps.and_ (S := fun _ => False) (Keeps.trans (((Keeps.refl (fun _ => False) w).alloc (.cells #[.slice none 0 0] 69))) HK2.out) k3 (fun i hi e => by omega))
  clear hb3 ho3 k3
  go_wp2_with fail
  go_ret
  exact ⟨⟨v3, rfl, HO3.out⟩, HK3.out⟩
end
end Go.Proofs.YtkmpdobojgiegaaGreatDoor

/-
  gens: Turn, over a store.
-/
namespace Go.Proofs.YtkmpdobojgiegaaGreatDoor
open Go.RowKit Go.Maps

section
variable [Res] {w0 w w' : World} {s M bad n : Nat} {most : Int} {L : List SRep}
theorem Sto.le_n (h : Sto w0 w s M most bad L n) {m : Nat} (hn : n ≤ m) (hm : m ≤ 1048576) : Sto w0 w s M most bad L m := { h with len := Nat.le_trans h.len hn, hn := hm }
omit [Res] in
theorem wrap_err (w : World) {c : Int} {v : Value} (h : ErrV w c v) (hc : c ≠ 0) (x : ByteArray) : Calls Tryz.prog 221 #[v, .int .i64 0, .string x] w fun e w' => (∃ v', e = .returned v' ∧ ErrV w' c v') ∧ Keeps (fun _ => False) w w' := by
  rcases h with ⟨h, _⟩ | ⟨_, l, hl⟩
  · exact absurd h hc
  · obtain ⟨ty, x', rfl⟩ := hl.form
    refine (wrap_flt w ty x' 0 x).mono ?_
    rintro e w' ⟨rfl, hw⟩
    have k : Keeps (fun _ => False) w w' := by rw [hw]; exact (Keeps.refl _ _).alloc _
    have hb : Blk w' w.heap.size tFault #[.int .i64 0, .string x, .iface ty x'] := by rw [hw]; exact Blk.new _ _ _
    exact ⟨⟨_, rfl, .inr ⟨hc, _, .layer _ _ _ _ _ _ hb (hl.keeps k (fun _ _ _ => id))⟩⟩, k⟩
omit [Res] in
theorem skip_err (w : World) {c : Int} {v : Value} (h : ErrV w c v) (hc : c ≠ 0) (h7 : c ≠ 7) : Calls Tryz.prog 223 #[v] w fun e w' => e = .returned (.bool false) ∧ Keeps (fun _ => False) w w' := by
  rcases h with ⟨h, _⟩ | ⟨_, l, hl⟩
  · exact absurd h hc
  · have hh := has_chain w l c 7 v hl
    rw [decide_eq_false (fun e => h7 e.2)] at hh
    have HH := Lib.hid hh
    clear hh
    go_enter Tryz.func223, Tryz.ntmps223
    go_wp2_with fail
    refine HH.out.mono ?_
    rintro e w2 ⟨rfl, k⟩
    have HK := Lib.hid k
    clear k
    go_wp2_with fail
    go_ret
    exact ⟨rfl, HK.out⟩
omit [Res] in
theorem rename_ne7 {bad : Nat} {l : List SFile} {nm nt : ByteArray} {f : SFile} (hg : getG SFile.name nm l = some f) : (renameP bad l nm nt).1 ≠ 7 := by
  unfold renameP
  by_cases h0 : (beginC bad nm).1 ≠ 0
  · rw [if_pos h0]
    unfold beginC
    split
    · split <;> simp
    · simp
  · rw [if_neg h0]
    by_cases h1 : namedP nt = false
    · rw [if_pos h1]; simp
    · rw [if_neg h1, hg]; simp
omit [Res] in
theorem turnL_cons_none {base : ByteArray} {j bad : Nat} {l : List SFile} (hg : genF l base j = none) : turnL base (downs (j + 1)) bad l = turnL base (downs j) bad l := by
  rw [downs_succ]
  show (match genF l base j with | none => _ | some _ => _) = _
  rw [hg]
omit [Res] in
theorem turnL_cons_some {base : ByteArray} {j bad : Nat} {l : List SFile} {f : SFile} {x : Int × Nat × List SFile} (hg : genF l base j = some f) (hx : x = renameP bad l (genName base j) (genName base (j + 1 : Nat))) : turnL base (downs (j + 1)) bad l = if x.1 ≠ 0 then x else turnL base (downs j) x.2.1 x.2.2 := by
  rw [downs_succ, hx]
  show (match genF l base j with | none => _ | some _ => _) = _
  rw [hg]
/-- behind a turn -/
def Turned (w0 w : World) (s M : Nat) (most : Int) (n : Nat) (x : Int × Nat × List SFile) (e : Ending) (w' : World) : Prop :=
  ∃ v L, e = .returned v ∧ ErrV w' x.1 v ∧ Sto w0 w' s M most x.2.1 L (n + 17) ∧ L.map SRep.f = x.2.2 ∧ Keeps (fun i => w0.heap.size ≤ i ∧ StR w i) w w'
theorem Keeps.thenSt {F : Nat → Prop} {a b c : World} (h : Keeps (fun i => F i ∧ StR a i) a b) (k : Keeps (fun _ => False) b c) : Keeps (fun i => F i ∧ StR a i) a c := h.trans k.none_
/-- what is a store's block behind an act was one before, or is new -/
theorem Keeps.twice {F : Nat → Prop} {a b c : World} (h : Keeps (fun i => F i ∧ StR a i) a b) (k : Keeps (fun i => F i ∧ StR b i) b c) : Keeps (fun i => F i ∧ StR a i) a c :=
  h.and_ k fun i hi e => by
    refine ⟨e.1, ?_⟩
    by_cases hs : F i ∧ StR a i
    · exact hs.2
    · have hb := h.block i hi hs
      refine ⟨e.2.1, ?_⟩
      rcases e.2.2 with ⟨cs, hh⟩ | ⟨cs, hh⟩ | ⟨cs, hh⟩ | ⟨es, cl, hh⟩
      · exact .inl ⟨cs, hb.symm.trans hh⟩
      · exact .inr (.inl ⟨cs, hb.symm.trans hh⟩)
      · exact .inr (.inr (.inl ⟨cs, hb.symm.trans hh⟩))
      · exact .inr (.inr (.inr ⟨es, cl, hb.symm.trans hh⟩))
theorem St.none_ {F : Nat → Prop} {a b c : World} (k : Keeps (fun _ => False) a b) (h : Keeps (fun i => F i ∧ StR b i) b c) : Keeps (fun i => F i ∧ StR a i) a c := Keeps.twice (k.none_ : Keeps (fun i => F i ∧ StR a i) a b) h

set_option maxRecDepth 100000 in
set_option maxHeartbeats 2000000 in
theorem gturn_any (h : Sto w0 w s M most bad L n) (hn : n ≤ 1000000) (base : ByteArray) (k : Int) (hb : base.size ≤ 1048576) :
    Calls Tryz.prog 170 #[.pointer (some ⟨s, 0, none⟩), .string base, .int .i64 k] w (Turned w0 w s M most n (turnP base (heldP k - 1) bad (L.map SRep.f))) := by
  obtain ⟨l, hl⟩ : ∃ l, l = L.map SRep.f := ⟨_, rfl⟩
  have HL := Lib.hid hl
  rw [← hl]
  have H := Lib.hid h
  obtain ⟨q1, q2⟩ := heldP_le k
  obtain ⟨q, hq⟩ : ∃ q, heldP k = q + 1 := ⟨heldP k - 1, by omega⟩
  have hq0 : heldP k - 1 = q := by omega
  rw [hq0]
  have hqq : q ≤ 15 := by omega
  have hh := held_any w k
  rw [hq] at hh
  have HH := Lib.hid hh
  have hsz := genName_size (base := base) (i := (q : Nat)) (by omega)
  have HNQ := Lib.hid (fun W => gname_any W base (q : Nat) hb (by omega) (by omega))
  obtain ⟨nq, hnq⟩ : ∃ nq, nq = genName base (q : Nat) := ⟨_, rfl⟩
  rw [← hnq] at hsz HNQ
  have HNQE := Lib.hid hnq
  obtain ⟨R, hR⟩ : ∃ R, R = turnP base q bad l := ⟨_, rfl⟩
  rw [← hR]
  have HR := Lib.hid hR
  clear hl h hq hq0 q1 q2 hh hnq hR
  cases hg : getG SFile.name nq l with
  | none =>
    have hgo : goneP base q bad l = (0, bad, l) := by unfold goneP genF; rw [← HNQE.out, hg]
    have hR2 : turnL base (downs q) bad l = R := by rw [HR.out]; unfold turnP; rw [hgo, if_neg (by simp)]
    have hrd := fun W (kk : Keeps (fun _ => False) w W) => sread_none (H.out.same kk) (nm := nq) (by unfold maxLen; omega) (by rw [← HL.out]; exact hg)
    have HRD := Lib.hid hrd
    have HR2 := Lib.hid hR2
    clear hgo hR2 hrd hg
    go_enter Tryz.func170, Tryz.ntmps170
    go_wp2_with fail
    refine HH.out.mono ?_
    rintro e w1 ⟨rfl, hw⟩
    obtain rfl : w = w1 := hw.symm
    go_wp2_with fail
    refine (HNQ.out _).mono ?_
    rintro e wa ⟨rfl, k1⟩
    have HKA := Lib.hid (show Keeps (fun i => w0.heap.size ≤ i ∧ StR w i) w wa from k1.none_)
    have HSA := Lib.hid ((H.out.same k1).le_n (m := n + 17 - q) (by omega) (by omega))
    have HRD2 := Lib.hid (HRD.out _ k1)
    clear k1
    go_wp2_with fail
    refine HRD2.out.mono ?_
    rintro e w2 ⟨rfl, hw⟩
    obtain rfl : wa = w2 := hw.symm
    have HRA := Lib.hid (show turnL base (downs q) bad (L.map SRep.f) = R by rw [← HL.out]; exact HR2.out)
    clear HRD HRD2 HR2
    go_wp2_with fail
    go_loopw [11] (fun u11 wr => ∃ (j bad : Nat) (L : List SRep), u11 = .int .i64 ((j : Int) - 1) ∧ j ≤ 15 ∧ Hid (Sto w0 wr s M most bad L (n + 17 - j) ∧ turnL base (downs j) bad (L.map SRep.f) = R ∧ Keeps (fun i => w0.heap.size ≤ i ∧ StR w i) w wr)) (fun u11 _ => (intOf u11 + 1).toNat)
    case atStart => exact ⟨q, _, _, by first | rfl | go_num, hqq, Lib.hid ⟨HSA.out, HRA.out, HKA.out⟩⟩
    case round =>
      clear HSA HRA HKA
      obtain ⟨j, bad, L, rfl, hj, HI⟩ := hrel
      rename World => wr
      rcases j with _ | j
      · have hRR : R = (0, bad, L.map SRep.f) := HI.out.2.1.symm
        have HRR := Lib.hid hRR
        clear hRR
        go_wp2_with fail
        go_ret
        rw [HRR.out]
        exact ⟨_, L, rfl, ErrV.ok, HI.out.1.le_n (by omega) (by omega), rfl, HI.out.2.2⟩
      · have ej : ((j + 1 : Nat) : Int) - 1 = (j : Int) := by omega
        rw [ej]
        have hsz := genName_size (base := base) (i := (j : Nat)) (by omega)
        have hsz2 := genName_size (base := base) (i := ((j + 1 : Nat) : Int)) (by omega)
        have hN := fun W => gname_any W base (j : Nat) hb (by omega) (by omega)
        have hN2 := fun W => gname_any W base ((j + 1 : Nat) : Int) hb (by omega) (by omega)
        rw [show ((j + 1 : Nat) : Int) = (j : Int) + 1 by omega] at hN2
        have hcn := fun hg => turnL_cons_none (base := base) (j := j) (bad := bad) (l := L.map SRep.f) hg
        have hcs := fun f x hg hx => turnL_cons_some (base := base) (j := j) (bad := bad) (l := L.map SRep.f) (f := f) (x := x) hg hx
        obtain ⟨nj, hnj⟩ : ∃ nj, nj = genName base (j : Nat) := ⟨_, rfl⟩
        obtain ⟨nk, hnk⟩ : ∃ nk, nk = genName base ((j : Int) + 1) := ⟨_, rfl⟩
        rw [show ((j + 1 : Nat) : Int) = (j : Int) + 1 by omega] at hcs hsz2
        unfold genF at hcn hcs
        rw [← hnj] at hsz hN hcn hcs
        rw [← hnk] at hN2 hcs hsz2
        have HN := Lib.hid hN
        have HN2 := Lib.hid hN2
        have HCN := Lib.hid hcn
        have HCS := Lib.hid hcs
        have HS := Lib.hid HI.out.1
        have HT := Lib.hid HI.out.2.1
        have HK := Lib.hid HI.out.2.2
        clear ej hN hN2 hcn hcs hnj hnk HI
        cases hg : getG SFile.name nj (L.map SRep.f) with
        | none =>
          have hrd := fun W (kk : Keeps (fun _ => False) wr W) => sread_none (HS.out.same kk) (nm := nj) (by unfold maxLen; omega) hg
          have HRD := Lib.hid hrd
          have HT2 := Lib.hid ((HCN.out hg).symm.trans HT.out)
          clear hg hrd
          go_wp2_with fail
          refine (HN.out _).mono ?_
          rintro e w3 ⟨rfl, k3⟩
          have HK3 := Lib.hid k3
          clear k3
          go_wp2_with fail
          refine (HRD.out _ HK3.out).mono ?_
          rintro e w4 ⟨rfl, hw⟩
          obtain rfl : w3 = w4 := hw.symm
          go_wp2_with fail
          go_roundw
          case rel => exact ⟨j, bad, L, by go_num, by omega, Lib.hid ⟨(HS.out.same HK3.out).le_n (by omega) (by omega), HT2.out, HK.out.thenSt HK3.out⟩⟩
          case measure => simp [intOf]
        | some f =>
          have hrd := fun W (kk : Keeps (fun _ => False) wr W) => sread_some (HS.out.same kk) (nm := nj) (by unfold maxLen; omega) hg
          have HRD := Lib.hid hrd
          obtain ⟨x, hx⟩ : ∃ x, x = renameP bad (L.map SRep.f) nj nk := ⟨_, rfl⟩
          have hx7 : x.1 ≠ 7 := by rw [hx]; exact rename_ne7 hg
          have hrn := fun W (kk : Keeps (fun _ => False) wr W) => srename (HS.out.same kk) (by omega) nj nk
          rw [← hx] at hrn
          have HRN := Lib.hid hrn
          have HT2 := Lib.hid ((HCS.out f x hg hx).symm.trans HT.out)
          have HX7 := Lib.hid hx7
          clear hg hrd hx hx7 hrn
          go_wp2_with fail
          refine (HN.out _).mono ?_
          rintro e w3 ⟨rfl, k3⟩
          have HK3 := Lib.hid k3
          clear k3
          go_wp2_with fail
          refine (HRD.out _ HK3.out).mono ?_
          rintro e w4 ⟨rfl, hw⟩
          obtain rfl : w3 = w4 := hw.symm
          go_wp2_with fail
          refine (HN.out _).mono ?_
          rintro e w4 ⟨rfl, k4⟩
          have HK4 := Lib.hid (HK3.out.trans k4)
          clear k4
          go_wp2_with fail
          refine (HN2.out _).mono ?_
          rintro e w5 ⟨rfl, k5⟩
          have HK5 := Lib.hid (HK4.out.trans k5)
          clear k5
          go_wp2_with fail
          refine (HRN.out _ HK5.out).mono ?_
          rintro e w6 ⟨v6, L6, rfl, hE, hS, hl, k6⟩
          have HK6 := Lib.hid (HK.out.twice (St.none_ HK5.out k6))
          have HE6 := Lib.hid hE
          have HL6 := Lib.hid hl
          have HS6 := Lib.hid hS
          clear hS hl k6
          by_cases hx0 : x.1 = 0
          · rw [hx0] at hE
            obtain rfl := hE.nil_
            have HT3 := Lib.hid (show turnL base (downs j) x.2.1 (L6.map SRep.f) = R by have := HT2.out; rwa [if_neg (by rw [hx0]; simp), ← HL6.out] at this)
            clear hE hx0
            go_wp2_with fail
            go_roundw
            case rel => exact ⟨j, _, L6, by go_num, by omega, Lib.hid ⟨HS6.out.le_n (by omega) (by omega), HT3.out, HK6.out⟩⟩
            case measure => simp [intOf]
          · obtain ⟨ty, x', rfl⟩ := hE.iface hx0
            have HX0 := Lib.hid (show R = x by have := HT2.out; rw [if_pos hx0] at this; exact this.symm)
            have HXX := Lib.hid hx0
            clear hE hx0
            have HSK := Lib.hid (skip_err _ HE6.out HXX.out HX7.out)
            go_wp2_with fail
            refine HSK.out.mono ?_
            rintro e w7 ⟨rfl, k7⟩
            have HK7 := Lib.hid k7
            clear k7
            go_wp2_with fail
            refine (wrap_err _ (HE6.out.keeps0 HK7.out) HXX.out _).mono ?_
            rintro e w8 ⟨⟨v8, rfl, E8⟩, k8⟩
            have HE8 := Lib.hid E8
            have HK8 := Lib.hid (HK7.out.trans k8)
            clear E8 k8
            go_wp2_with fail
            go_ret
            rw [HX0.out]
            exact ⟨_, L6, rfl, HE8.out, (HS6.out.same HK8.out).le_n (by omega) (by omega), HL6.out, HK6.out.thenSt HK8.out⟩
  | some f =>
    have hgo : goneP base q bad l = removeP bad l nq := by unfold goneP genF; rw [← HNQE.out, hg]
    have hrd := fun W (kk : Keeps (fun _ => False) w W) => sread_some (H.out.same kk) (nm := nq) (by unfold maxLen; omega) (by rw [← HL.out]; exact hg)
    obtain ⟨x, hx⟩ : ∃ x, x = removeP bad l nq := ⟨_, rfl⟩
    have hR2 : R = if x.1 ≠ 0 then x else turnL base (downs q) x.2.1 x.2.2 := by rw [HR.out]; unfold turnP; rw [hgo, hx]
    have HRD := Lib.hid hrd
    have HR2 := Lib.hid hR2
    have hrm := fun W (kk : Keeps (fun _ => False) w W) => sremove (H.out.same kk) (by omega) nq
    rw [← HL.out, ← hx] at hrm
    have HRM := Lib.hid hrm
    clear hgo hR2 hrd hg hx hrm
    go_enter Tryz.func170, Tryz.ntmps170
    go_wp2_with fail
    refine HH.out.mono ?_
    rintro e w1 ⟨rfl, hw⟩
    obtain rfl : w = w1 := hw.symm
    go_wp2_with fail
    refine (HNQ.out _).mono ?_
    rintro e w1 ⟨rfl, k1⟩
    have HK1 := Lib.hid k1
    have HRD2 := Lib.hid (HRD.out _ k1)
    clear k1
    go_wp2_with fail
    refine HRD2.out.mono ?_
    rintro e w2 ⟨rfl, hw⟩
    obtain rfl : w1 = w2 := hw.symm
    clear HRD HRD2
    go_wp2_with fail
    refine (HNQ.out _).mono ?_
    rintro e w2 ⟨rfl, k2⟩
    have HK2 := Lib.hid (HK1.out.trans k2)
    clear k2
    go_wp2_with fail
    refine (HRM.out _ HK2.out).mono ?_
    rintro e wa ⟨v, L1, rfl, hE, hS, hl, k3⟩
    have HKA := Lib.hid (St.none_ HK2.out k3)
    have HE3 := Lib.hid hE
    have HL3 := Lib.hid hl
    have HS3 := Lib.hid hS
    clear hS hl k3
    by_cases hx0 : x.1 = 0
    · rw [hx0] at hE
      obtain rfl := hE.nil_
      have HRA := Lib.hid (show turnL base (downs q) x.2.1 (L1.map SRep.f) = R by rw [HR2.out, if_neg (by rw [hx0]; simp), HL3.out])
      have HSA := Lib.hid (HS3.out.le_n (m := n + 17 - q) (by omega) (by omega))
      clear hE hx0 HS3 HL3 HE3
      go_wp2_with fail
      go_loopw [11] (fun u11 wr => ∃ (j bad : Nat) (L : List SRep), u11 = .int .i64 ((j : Int) - 1) ∧ j ≤ 15 ∧ Hid (Sto w0 wr s M most bad L (n + 17 - j) ∧ turnL base (downs j) bad (L.map SRep.f) = R ∧ Keeps (fun i => w0.heap.size ≤ i ∧ StR w i) w wr)) (fun u11 _ => (intOf u11 + 1).toNat)
      case atStart => exact ⟨q, _, _, by first | rfl | go_num, hqq, Lib.hid ⟨HSA.out, HRA.out, HKA.out⟩⟩
      case round =>
        clear HSA HRA HKA
        obtain ⟨j, bad, L, rfl, hj, HI⟩ := hrel
        rename World => wr
        rcases j with _ | j
        · have hRR : R = (0, bad, L.map SRep.f) := HI.out.2.1.symm
          have HRR := Lib.hid hRR
          clear hRR
          go_wp2_with fail
          go_ret
          rw [HRR.out]
          exact ⟨_, L, rfl, ErrV.ok, HI.out.1.le_n (by omega) (by omega), rfl, HI.out.2.2⟩
        · have ej : ((j + 1 : Nat) : Int) - 1 = (j : Int) := by omega
          rw [ej]
          have hsz := genName_size (base := base) (i := (j : Nat)) (by omega)
          have hsz2 := genName_size (base := base) (i := ((j + 1 : Nat) : Int)) (by omega)
          have hN := fun W => gname_any W base (j : Nat) hb (by omega) (by omega)
          have hN2 := fun W => gname_any W base ((j + 1 : Nat) : Int) hb (by omega) (by omega)
          rw [show ((j + 1 : Nat) : Int) = (j : Int) + 1 by omega] at hN2
          have hcn := fun hg => turnL_cons_none (base := base) (j := j) (bad := bad) (l := L.map SRep.f) hg
          have hcs := fun f x hg hx => turnL_cons_some (base := base) (j := j) (bad := bad) (l := L.map SRep.f) (f := f) (x := x) hg hx
          obtain ⟨nj, hnj⟩ : ∃ nj, nj = genName base (j : Nat) := ⟨_, rfl⟩
          obtain ⟨nk, hnk⟩ : ∃ nk, nk = genName base ((j : Int) + 1) := ⟨_, rfl⟩
          rw [show ((j + 1 : Nat) : Int) = (j : Int) + 1 by omega] at hcs hsz2
          unfold genF at hcn hcs
          rw [← hnj] at hsz hN hcn hcs
          rw [← hnk] at hN2 hcs hsz2
          have HN := Lib.hid hN
          have HN2 := Lib.hid hN2
          have HCN := Lib.hid hcn
          have HCS := Lib.hid hcs
          have HS := Lib.hid HI.out.1
          have HT := Lib.hid HI.out.2.1
          have HK := Lib.hid HI.out.2.2
          clear ej hN hN2 hcn hcs hnj hnk HI
          cases hg : getG SFile.name nj (L.map SRep.f) with
          | none =>
            have hrd := fun W (kk : Keeps (fun _ => False) wr W) => sread_none (HS.out.same kk) (nm := nj) (by unfold maxLen; omega) hg
            have HRD := Lib.hid hrd
            have HT2 := Lib.hid ((HCN.out hg).symm.trans HT.out)
            clear hg hrd
            go_wp2_with fail
            refine (HN.out _).mono ?_
            rintro e w3 ⟨rfl, k3⟩
            have HK3 := Lib.hid k3
            clear k3
            go_wp2_with fail
            refine (HRD.out _ HK3.out).mono ?_
            rintro e w4 ⟨rfl, hw⟩
            obtain rfl : w3 = w4 := hw.symm
            go_wp2_with fail
            go_roundw
            case rel => exact ⟨j, bad, L, by go_num, by omega, Lib.hid ⟨(HS.out.same HK3.out).le_n (by omega) (by omega), HT2.out, HK.out.thenSt HK3.out⟩⟩
            case measure => simp [intOf]
          | some f =>
            have hrd := fun W (kk : Keeps (fun _ => False) wr W) => sread_some (HS.out.same kk) (nm := nj) (by unfold maxLen; omega) hg
            have HRD := Lib.hid hrd
            obtain ⟨x, hx⟩ : ∃ x, x = renameP bad (L.map SRep.f) nj nk := ⟨_, rfl⟩
            have hx7 : x.1 ≠ 7 := by rw [hx]; exact rename_ne7 hg
            have hrn := fun W (kk : Keeps (fun _ => False) wr W) => srename (HS.out.same kk) (by omega) nj nk
            rw [← hx] at hrn
            have HRN := Lib.hid hrn
            have HT2 := Lib.hid ((HCS.out f x hg hx).symm.trans HT.out)
            have HX7 := Lib.hid hx7
            clear hg hrd hx hx7 hrn
            go_wp2_with fail
            refine (HN.out _).mono ?_
            rintro e w3 ⟨rfl, k3⟩
            have HK3 := Lib.hid k3
            clear k3
            go_wp2_with fail
            refine (HRD.out _ HK3.out).mono ?_
            rintro e w4 ⟨rfl, hw⟩
            obtain rfl : w3 = w4 := hw.symm
            go_wp2_with fail
            refine (HN.out _).mono ?_
            rintro e w4 ⟨rfl, k4⟩
            have HK4 := Lib.hid (HK3.out.trans k4)
            clear k4
            go_wp2_with fail
            refine (HN2.out _).mono ?_
            rintro e w5 ⟨rfl, k5⟩
            have HK5 := Lib.hid (HK4.out.trans k5)
            clear k5
            go_wp2_with fail
            refine (HRN.out _ HK5.out).mono ?_
            rintro e w6 ⟨v6, L6, rfl, hE, hS, hl, k6⟩
            have HK6 := Lib.hid (HK.out.twice (St.none_ HK5.out k6))
            have HE6 := Lib.hid hE
            have HL6 := Lib.hid hl
            have HS6 := Lib.hid hS
            clear hS hl k6
            by_cases hx0 : x.1 = 0
            · rw [hx0] at hE
              obtain rfl := hE.nil_
              have HT3 := Lib.hid (show turnL base (downs j) x.2.1 (L6.map SRep.f) = R by have := HT2.out; rwa [if_neg (by rw [hx0]; simp), ← HL6.out] at this)
              clear hE hx0
              go_wp2_with fail
              go_roundw
              case rel => exact ⟨j, _, L6, by go_num, by omega, Lib.hid ⟨HS6.out.le_n (by omega) (by omega), HT3.out, HK6.out⟩⟩
              case measure => simp [intOf]
            · obtain ⟨ty, x', rfl⟩ := hE.iface hx0
              have HX0 := Lib.hid (show R = x by have := HT2.out; rw [if_pos hx0] at this; exact this.symm)
              have HXX := Lib.hid hx0
              clear hE hx0
              have HSK := Lib.hid (skip_err _ HE6.out HXX.out HX7.out)
              go_wp2_with fail
              refine HSK.out.mono ?_
              rintro e w7 ⟨rfl, k7⟩
              have HK7 := Lib.hid k7
              clear k7
              go_wp2_with fail
              refine (wrap_err _ (HE6.out.keeps0 HK7.out) HXX.out _).mono ?_
              rintro e w8 ⟨⟨v8, rfl, E8⟩, k8⟩
              have HE8 := Lib.hid E8
              have HK8 := Lib.hid (HK7.out.trans k8)
              clear E8 k8
              go_wp2_with fail
              go_ret
              rw [HX0.out]
              exact ⟨_, L6, rfl, HE8.out, (HS6.out.same HK8.out).le_n (by omega) (by omega), HL6.out, HK6.out.thenSt HK8.out⟩
    · obtain ⟨ty, x', rfl⟩ := hE.iface hx0
      have HX0 := Lib.hid (show R = x by rw [HR2.out, if_pos hx0])
      clear hE
      have HW := Lib.hid (fun W c (h : ErrV W c (.iface ty x')) (h0 : c ≠ 0) => wrap_err W h h0)
      have hx1 := hx0
      have HXX := Lib.hid hx1
      clear hx0 hx1
      go_wp2_with fail
      refine (HW.out _ _ HE3.out HXX.out _).mono ?_
      rintro e w5 ⟨⟨v5, rfl, E5⟩, k5⟩
      have HE5 := Lib.hid E5
      have HK5 := Lib.hid k5
      clear E5 k5
      go_wp2_with fail
      go_ret
      rw [HX0.out]
      exact ⟨_, L1, rfl, HE5.out, (HS3.out.same HK5.out).le_n (by omega) (by omega), HL3.out, HKA.out.thenSt HK5.out⟩
end
end Go.Proofs.YtkmpdobojgiegaaGreatDoor

/-
  Sums, numbers as bytes, and items as records, plainly: what is put, and what is read of any bytes. No program in sight.
-/
namespace Go.Proofs.YtkmpdobojgiegaaGreatDoor
open Go.RowKit

/-! sums -/
def onP (h : Nat) (c : UInt8) : Nat := (h * 257 + c.toNat + 1) % 2147483647
def sumP (l : List UInt8) : Nat := l.foldl onP 0
theorem sumP_lt (l : List UInt8) : sumP l < 2147483647 := by
  unfold sumP
  have h : ∀ (l : List UInt8) (n : Nat), n < 2147483647 → l.foldl onP n < 2147483647 := by
    intro l
    induction l with
    | nil => intro n hn; exact hn
    | cons c l ih => intro n _; exact ih _ (Nat.mod_lt _ (by omega))
  exact h l 0 (by omega)
theorem sumP_snoc (l : List UInt8) (c : UInt8) : sumP (l ++ [c]) = onP (sumP l) c := by unfold sumP; rw [List.foldl_append]; rfl

/-! numbers as bytes, the highest first -/
def beP : Nat → Nat → List UInt8
  | 0, _ => []
  | k + 1, n => beP k (n / 256) ++ [UInt8.ofNat (n % 256)]
def unbe (l : List UInt8) : Nat := l.foldl (fun n c => n * 256 + c.toNat) 0
theorem beP_len : ∀ k n, (beP k n).length = k
  | 0, _ => rfl
  | k + 1, n => by unfold beP; rw [List.length_append, beP_len k]; rfl
theorem unbe_snoc (l : List UInt8) (c : UInt8) : unbe (l ++ [c]) = unbe l * 256 + c.toNat := by unfold unbe; rw [List.foldl_append]; rfl
theorem byte_mod (n : Nat) : (UInt8.ofNat (n % 256)).toNat = n % 256 := by simp
theorem unbe_be : ∀ (k n : Nat), n < 256 ^ k → unbe (beP k n) = n
  | 0, n, h => by
    have : n = 0 := by simpa using h
    subst this; rfl
  | k + 1, n, h => by
    unfold beP
    rw [unbe_snoc, unbe_be k (n / 256) (by rw [Nat.pow_succ] at h; omega), byte_mod]
    omega
theorem unbe_lt (l : List UInt8) : unbe l < 256 ^ l.length := by
  have h : ∀ l : List UInt8, unbe l.reverse < 256 ^ l.reverse.length := by
    intro l
    induction l with
    | nil => simp [unbe]
    | cons c l ih =>
      rw [List.reverse_cons, unbe_snoc, List.length_append]
      have hc : c.toNat < 256 := c.toNat_lt
      show _ < 256 ^ (l.reverse.length + 1)
      rw [Nat.pow_succ]
      omega
  have := h l.reverse
  rwa [List.reverse_reverse] at this
theorem be_unbe (l : List UInt8) : beP l.length (unbe l) = l := by
  have h : ∀ l : List UInt8, beP l.reverse.length (unbe l.reverse) = l.reverse := by
    intro l
    induction l with
    | nil => rfl
    | cons c l ih =>
      have hc : c.toNat < 256 := c.toNat_lt
      rw [List.reverse_cons, unbe_snoc, List.length_append]
      show beP (l.reverse.length + 1) _ = _
      unfold beP
      rw [show (unbe l.reverse * 256 + c.toNat) / 256 = unbe l.reverse by omega, ih, show (unbe l.reverse * 256 + c.toNat) % 256 = c.toNat by omega]
      simp
  have := h l.reverse
  rwa [List.reverse_reverse] at this

/-! items -/
structure Itm where
  kind : Int
  at_ : Int
  body : ByteArray
/-- 1: no such kind; 2: no such time; 4: too long; 0: it may be -/
def checkI (e1 e2 e3 : Int) (x : Itm) : Int := if x.kind < 1 ∨ 15 < x.kind then e1 else if x.at_ < 0 ∨ 1099511627776 < x.at_ then e2 else if 4096 < x.body.size then e3 else 0
def Itm.ok (x : Itm) : Prop := (1 ≤ x.kind ∧ x.kind ≤ 15) ∧ (0 ≤ x.at_ ∧ x.at_ ≤ 1099511627776) ∧ x.body.size ≤ 4096
/-- an item's bytes ahead of their sum -/
def headP (x : Itm) : List UInt8 := 87 :: UInt8.ofNat x.kind.toNat :: (beP 6 x.at_.toNat ++ (beP 2 x.body.size ++ x.body.data.toList))
def recP (x : Itm) : List UInt8 := headP x ++ beP 4 (sumP (headP x))
theorem headP_len (x : Itm) : (headP x).length = 10 + x.body.size := by
  unfold headP
  simp only [List.length_cons, List.length_append, beP_len]
  have : x.body.data.toList.length = x.body.size := by simp
  omega
theorem recP_len (x : Itm) : (recP x).length = 14 + x.body.size := by unfold recP; rw [List.length_append, headP_len, beP_len]; omega

def gotK (s : List UInt8) : Nat := unbe ((s.drop 8).take 2)
def gotI (s : List UInt8) : Itm := ⟨((s.getD 1 0).toNat : Int), (unbe ((s.drop 2).take 6) : Int), str ((s.drop 10).take (gotK s))⟩
/-- an item stands at the beginning of bytes, whole -/
structure Whole (s : List UInt8) : Prop where
  w : s[0]? = some 87
  kind : 1 ≤ (s.getD 1 0).toNat ∧ (s.getD 1 0).toNat ≤ 15
  at_ : unbe ((s.drop 2).take 6) ≤ 1099511627776
  len : gotK s ≤ 4096
  all : 14 + gotK s ≤ s.length
  sum : unbe ((s.drop (10 + gotK s)).take 4) = sumP (s.take (10 + gotK s))
def wholeB (s : List UInt8) : Bool := decide (s[0]? = some 87 ∧ (1 ≤ (s.getD 1 0).toNat ∧ (s.getD 1 0).toNat ≤ 15) ∧ unbe ((s.drop 2).take 6) ≤ 1099511627776 ∧ gotK s ≤ 4096 ∧ 14 + gotK s ≤ s.length ∧ unbe ((s.drop (10 + gotK s)).take 4) = sumP (s.take (10 + gotK s)))
theorem whole_iff {s : List UInt8} : wholeB s = true ↔ Whole s := by
  unfold wholeB
  rw [decide_eq_true_iff]
  exact ⟨fun ⟨a, b, c, d, e, f⟩ => ⟨a, b, c, d, e, f⟩, fun ⟨a, b, c, d, e, f⟩ => ⟨a, b, c, d, e, f⟩⟩
theorem Whole.ok {s : List UInt8} (h : Whole s) : (gotI s).ok := by
  refine ⟨⟨by have := h.kind; unfold gotI; simp only; omega, by have := h.kind; unfold gotI; simp only; omega⟩, ⟨by unfold gotI; simp only; omega, by have := h.at_; unfold gotI; simp only; omega⟩, ?_⟩
  unfold gotI
  simp only [str_size, List.length_take]
  have := h.len
  omega
theorem Whole.body {s : List UInt8} (h : Whole s) : (gotI s).body.size = gotK s := by
  unfold gotI
  simp only [str_size, List.length_take, List.length_drop]
  have := h.all
  omega
/-- what is read is what was put -/
theorem Whole.put {s : List UInt8} (h : Whole s) : s.take (14 + gotK s) = recP (gotI s) := by
  have hb := h.body
  have hall := h.all
  have hhead : s.take (10 + gotK s) = headP (gotI s) := by
    unfold headP
    rw [hb]
    match s, h.w with
    | c :: s1, hw =>
      simp at hw
      subst hw
      match s1, hall with
      | k :: s2, hall =>
        have e1 : (gotI (87 :: k :: s2)).kind.toNat = k.toNat := by unfold gotI; simp
        have e2 : (gotI (87 :: k :: s2)).at_.toNat = unbe (s2.take 6) := by unfold gotI; simp
        have e3 : gotK (87 :: k :: s2) = unbe ((s2.drop 6).take 2) := rfl
        have e4 : (gotI (87 :: k :: s2)).body.data.toList = (s2.drop 8).take (gotK (87 :: k :: s2)) := rfl
        simp only [List.length_cons] at hall
        have l6 : (s2.take 6).length = 6 := by rw [List.length_take]; omega
        have l2 : ((s2.drop 6).take 2).length = 2 := by rw [List.length_take, List.length_drop]; omega
        have b6 := be_unbe (s2.take 6)
        have b2 := be_unbe ((s2.drop 6).take 2)
        rw [l6] at b6
        rw [l2] at b2
        rw [e1, e2, b6, e4]
        rw [show beP 2 (gotK (87 :: k :: s2)) = (s2.drop 6).take 2 by rw [e3]; exact b2]
        rw [show 10 + gotK (87 :: k :: s2) = (gotK (87 :: k :: s2) + 8) + 1 + 1 by omega, List.take_succ_cons, List.take_succ_cons]
        have hk : UInt8.ofNat k.toNat = k := by simp
        rw [hk]
        congr 2
        generalize gotK (87 :: k :: s2) = g
        rw [show g + 8 = 6 + (2 + g) by omega, List.take_add, List.take_add, List.drop_drop]
  unfold recP
  rw [← hhead, ← h.sum, show 14 + gotK s = (10 + gotK s) + 4 by omega, List.take_add]
  congr 1
  have l4 : ((s.drop (10 + gotK s)).take 4).length = 4 := by rw [List.length_take, List.length_drop]; omega
  have := be_unbe ((s.drop (10 + gotK s)).take 4)
  rw [l4] at this
  exact this.symm
theorem head_parts {x : Itm} (h : x.ok) (t : List UInt8) : gotK (headP x ++ t) = x.body.size ∧ gotI (headP x ++ t) = x ∧ (headP x ++ t)[0]? = some 87 := by
  obtain ⟨⟨h1, h2⟩, ⟨h3, h4⟩, h5⟩ := h
  have l6 := beP_len 6 x.at_.toNat
  have l2 := beP_len 2 x.body.size
  have e0 : headP x ++ t = 87 :: UInt8.ofNat x.kind.toNat :: (beP 6 x.at_.toNat ++ (beP 2 x.body.size ++ (x.body.data.toList ++ t))) := by unfold headP; simp
  have hk : gotK (headP x ++ t) = x.body.size := by
    rw [e0]
    unfold gotK
    show unbe (((beP 6 x.at_.toNat ++ (beP 2 x.body.size ++ (x.body.data.toList ++ t))).drop 6).take 2) = _
    rw [List.drop_append_of_le_length (by omega), List.drop_of_length_le (by omega), List.nil_append, List.take_append_of_le_length (by omega), List.take_of_length_le (by omega)]
    exact unbe_be 2 _ (by omega)
  refine ⟨hk, ?_, by rw [e0]; rfl⟩
  unfold gotI
  rw [hk, e0]
  have ek : ((UInt8.ofNat x.kind.toNat).toNat : Int) = x.kind := by
    have : x.kind.toNat < 256 := by omega
    rw [UInt8.toNat_ofNat_of_lt' (by show x.kind.toNat < 256; omega)]
    omega
  have ea : unbe ((beP 6 x.at_.toNat ++ (beP 2 x.body.size ++ (x.body.data.toList ++ t))).take 6) = x.at_.toNat := by
    rw [List.take_append_of_le_length (by omega), List.take_of_length_le (by omega)]
    exact unbe_be 6 _ (by omega)
  have eb : (((beP 6 x.at_.toNat ++ (beP 2 x.body.size ++ (x.body.data.toList ++ t))).drop 8).take x.body.size) = x.body.data.toList := by
    rw [List.drop_append, List.drop_of_length_le (by omega), l6, List.nil_append, List.drop_append_of_le_length (by omega), List.drop_of_length_le (by omega), List.nil_append]
    have hl : x.body.data.toList.length = x.body.size := by simp
    rw [List.take_append_of_le_length (by omega), List.take_of_length_le (by omega)]
  show (⟨((UInt8.ofNat x.kind.toNat).toNat : Int), (unbe ((beP 6 x.at_.toNat ++ (beP 2 x.body.size ++ (x.body.data.toList ++ t))).take 6) : Int), str (((beP 6 x.at_.toNat ++ (beP 2 x.body.size ++ (x.body.data.toList ++ t))).drop 8).take x.body.size)⟩ : Itm) = x
  rw [ek, ea, eb]
  have : ((x.at_.toNat : Nat) : Int) = x.at_ := by omega
  rw [this, str_of]
/-- what was put is read, whatever comes behind it -/
theorem rec_whole {x : Itm} (h : x.ok) (t : List UInt8) : Whole (recP x ++ t) ∧ gotI (recP x ++ t) = x ∧ gotK (recP x ++ t) = x.body.size := by
  have e : recP x ++ t = headP x ++ (beP 4 (sumP (headP x)) ++ t) := by unfold recP; rw [List.append_assoc]
  obtain ⟨hk, hi, hw⟩ := head_parts h (beP 4 (sumP (headP x)) ++ t)
  rw [← e] at hk hi hw
  have hl := headP_len x
  have l4 := beP_len 4 (sumP (headP x))
  have hs := sumP_lt (headP x)
  have h' := h
  obtain ⟨⟨h1, h2⟩, ⟨h3, h4⟩, h5⟩ := h'
  refine ⟨⟨hw, ?_, ?_, by rw [hk]; exact h5, by rw [hk, List.length_append, recP_len]; omega, ?_⟩, hi, hk⟩
  · have := congrArg Itm.kind hi
    unfold gotI at this
    simp only at this
    omega
  · have := congrArg Itm.at_ hi
    unfold gotI at this
    simp only at this
    omega
  · rw [hk, e, List.drop_append, List.drop_of_length_le (by omega), List.nil_append, show 10 + x.body.size - (headP x).length = 0 by omega, List.drop_zero, List.take_append_of_le_length (by omega), List.take_of_length_le (by omega), List.take_append_of_le_length (by omega), List.take_of_length_le (by omega)]
    exact unbe_be 4 _ (by omega)
/-- cut off, it is none -/
theorem rec_cut {x : Itm} (h : x.ok) {m : Nat} (hm : m < (recP x).length) : ¬ Whole ((recP x).take m) := fun hw => by
  have hl := recP_len x
  have hlen : ((recP x).take m).length = m := by rw [List.length_take]; omega
  have hall := hw.all
  rw [hlen] at hall
  have hk : gotK ((recP x).take m) = gotK (recP x) := by
    unfold gotK
    have : (((recP x).take m).drop 8).take 2 = ((recP x).drop 8).take 2 := by
      rw [List.drop_take, List.take_take]
      congr 1
      omega
    rw [this]
  have := (rec_whole h []).2.2
  rw [List.append_nil] at this
  rw [hk, this] at hall
  omega

/-! one behind the other -/
def scanF : Nat → List UInt8 → List Itm
  | 0, _ => []
  | f + 1, s => if wholeB s then gotI s :: scanF f (s.drop (14 + gotK s)) else []
def scanI (s : List UInt8) : List Itm := scanF s.length s
theorem scanF_more : ∀ (f : Nat) (s : List UInt8), s.length ≤ f → scanF f s = scanI s := by
  have h : ∀ (n : Nat) (s : List UInt8), s.length ≤ n → ∀ f g, s.length ≤ f → s.length ≤ g → scanF f s = scanF g s := by
    intro n
    induction n with
    | zero =>
      intro s hs f g _ _
      have hn : wholeB s = false := by
        cases hw : wholeB s with
        | false => rfl
        | true => have := (whole_iff.1 hw).all; omega
      cases f <;> cases g <;> simp [scanF, hn]
    | succ n ih =>
      intro s hs f g hf hg
      cases hw : wholeB s with
      | false => cases f <;> cases g <;> simp [scanF, hw]
      | true =>
        have ha := (whole_iff.1 hw).all
        match f, g with
        | 0, _ => omega
        | _ + 1, 0 => omega
        | f + 1, g + 1 =>
          unfold scanF
          rw [if_pos hw, if_pos hw]
          congr 1
          exact ih _ (by rw [List.length_drop]; omega) _ _ (by rw [List.length_drop]; omega) (by rw [List.length_drop]; omega)
  intro f s hs
  exact h s.length s (Nat.le_refl _) f s.length hs (Nat.le_refl _)
theorem scan_no {s : List UInt8} (h : ¬ Whole s) : scanI s = [] := by
  have hn : wholeB s = false := by
    cases hw : wholeB s with
    | false => rfl
    | true => exact absurd (whole_iff.1 hw) h
  unfold scanI
  cases s.length <;> simp [scanF, hn]
theorem scan_more {s : List UInt8} (h : Whole s) : scanI s = gotI s :: scanI (s.drop (14 + gotK s)) := by
  have ha := h.all
  unfold scanI
  obtain ⟨n, hn⟩ : ∃ n, s.length = n + 1 := ⟨s.length - 1, by omega⟩
  rw [hn]
  show (if wholeB s then _ else _) = _
  rw [if_pos (whole_iff.2 h)]
  congr 1
  rw [scanF_more _ _ (by rw [List.length_drop]; omega), scanI]
/-- the bytes of items -/
def flatR (xs : List Itm) : List UInt8 := (xs.map recP).flatten
theorem flatR_cons (x : Itm) (xs : List Itm) : flatR (x :: xs) = recP x ++ flatR xs := rfl
theorem flatR_append (xs ys : List Itm) : flatR (xs ++ ys) = flatR xs ++ flatR ys := by unfold flatR; rw [List.map_append, List.flatten_append]
theorem scan_flat {xs : List Itm} (h : ∀ x ∈ xs, x.ok) (t : List UInt8) : scanI (flatR xs ++ t) = xs ++ scanI t := by
  induction xs with
  | nil => rfl
  | cons x xs ih =>
    have hx := h x List.mem_cons_self
    rw [flatR_cons, List.append_assoc]
    obtain ⟨h1, h2, h3⟩ := rec_whole hx (flatR xs ++ t)
    rw [scan_more h1, h2, h3, List.drop_append, List.drop_of_length_le (by rw [recP_len]; omega), recP_len, List.nil_append, show 14 + x.body.size - (14 + x.body.size) = 0 by omega, List.drop_zero, ih fun y hy => h y (List.mem_cons_of_mem _ hy)]
    rfl
/-- items' bytes cut off anywhere: those that are whole -/
theorem scan_take {xs : List Itm} (h : ∀ x ∈ xs, x.ok) (m : Nat) : ∃ k, k ≤ xs.length ∧ scanI ((flatR xs).take m) = xs.take k ∧ ((flatR xs).length ≤ m → k = xs.length) ∧ (∀ q, q ≤ xs.length → (flatR (xs.take q)).length ≤ m → q ≤ k) := by
  induction xs generalizing m with
  | nil => exact ⟨0, Nat.le_refl _, by rw [show (flatR []).take m = [] by unfold flatR; simp]; exact scan_no fun hw => by have := hw.all; simp at this, fun _ => rfl, fun q hq _ => hq⟩
  | cons x xs ih =>
    have hx := h x List.mem_cons_self
    have hl := recP_len x
    rw [flatR_cons]
    by_cases hm : m < (recP x).length
    · refine ⟨0, Nat.zero_le _, ?_, fun hh => by rw [List.length_append] at hh; omega, fun q hq hqm => ?_⟩
      · rw [List.take_append_of_le_length (by omega), scan_no (rec_cut hx hm)]; rfl
      · match q with
        | 0 => exact Nat.le_refl _
        | q + 1 =>
          rw [List.take_succ_cons, flatR_cons, List.length_append] at hqm
          omega
    · obtain ⟨k, hk1, hk2, hk3, hk4⟩ := ih (fun y hy => h y (List.mem_cons_of_mem _ hy)) (m - (recP x).length)
      refine ⟨k + 1, by simp only [List.length_cons]; omega, ?_, fun hh => ?_, fun q hq hqm => ?_⟩
      · rw [List.take_append, List.take_of_length_le (by omega)]
        have := scan_flat (xs := [x]) (fun y hy => by rw [List.mem_singleton.1 hy]; exact hx) ((flatR xs).take (m - (recP x).length))
        rw [show flatR [x] = recP x by unfold flatR; simp] at this
        rw [this, hk2]; rfl
      · rw [List.length_append] at hh
        have := hk3 (by omega)
        simp only [List.length_cons]; omega
      · match q with
        | 0 => omega
        | q + 1 =>
          rw [List.take_succ_cons, flatR_cons, List.length_append] at hqm
          simp only [List.length_cons] at hq
          have := hk4 q (by omega) (by omega)
          omega
end Go.Proofs.YtkmpdobojgiegaaGreatDoor

/-
  A log's generations, plainly: what a put leaves, what is read of all of them, what a crash leaves. No program in sight.
-/
namespace Go.Proofs.YtkmpdobojgiegaaGreatDoor
open Go.RowKit Go.Maps

def turnedP (base : ByteArray) (k bad : Nat) (l : List SFile) : Int × Nat × List SFile :=
  if (syncP bad l base).1 ≠ 0 then syncP bad l base else turnP base (k - 1) (syncP bad l base).2.1 (syncP bad l base).2.2
/-- bytes put into a log of k generations of so many bytes -/
def putP (mst : Int) (base : ByteArray) (k size bad : Nat) (l : List SFile) (b : ByteArray) : Int × Nat × List SFile :=
  if 0 < szG base l ∧ size < szG base l + b.size then
    if (turnedP base k bad l).1 ≠ 0 then turnedP base k bad l else appendP mst (turnedP base k bad l).2.1 (turnedP base k bad l).2.2 base b
  else appendP mst bad l base b
def curI (c : Option (List Itm × Nat)) : List Itm := match c with | some x => x.1 | none => []
def curS (c : Option (List Itm × Nat)) : Nat := match c with | some x => x.2 | none => 0
def flatS (xs : List Itm) : ByteArray := str (flatR xs)
/-- what is read of texts, one behind the other -/
def loadP (ds : List ByteArray) : List Itm := ds.flatMap fun d => scanI d.data.toList
/-- a log's generations: G the elder ones, the newest of them first, whatever bytes they are; cur the newest of all, and how many of its bytes are sure -/
structure Hist (base : ByteArray) (k : Nat) (l : List SFile) (G : List ByteArray) (cur : Option (List Itm × Nat)) : Prop where
  rise : Rise SFile.name l
  now : genV l base 0 = cur.map fun c => (flatS c.1, c.2)
  old : ∀ i, i + 1 < k → genV l base (i + 1) = G[i]?.map fun d => (d, d.size)
  len : G.length + 1 ≤ k
  okC : ∀ x ∈ curI cur, x.ok
  sure : curS cur ≤ (flatR (curI cur)).length
/-- .. of which n items, of all, are sure -/
structure Log (base : ByteArray) (k : Nat) (l : List SFile) (all : List Itm) (n : Nat) (gone : List Itm) (G : List ByteArray) (cur : Option (List Itm × Nat)) : Prop where
  hist : Hist base k l G cur
  all_ : all = gone ++ (loadP G.reverse ++ curI cur)
  sure : ∃ q, q ≤ (curI cur).length ∧ (flatR ((curI cur).take q)).length ≤ curS cur ∧ n ≤ gone.length + ((loadP G.reverse).length + q)
  full : gone = [] ∨ G.length + 1 = k

section
variable {base : ByteArray} {l : List SFile} {k n bad size : Nat} {al gone : List Itm} {G : List ByteArray} {cur : Option (List Itm × Nat)} {mst : Int}
theorem gen_zero : genF l base 0 = getG SFile.name base l := by
  unfold genF
  rw [genName_zero (by omega)]
theorem genV_put0 (hr : Rise SFile.name l) (d : ByteArray) (s : Nat) : genV (putG SFile.name ⟨base, d, s⟩ l) base 0 = some (d, s) := by
  unfold genV
  rw [gen_zero, get_put_eq hr ⟨base, d, s⟩]
  rfl
theorem genV_put1 (hr : Rise SFile.name l) (d : ByteArray) (s i : Nat) : genV (putG SFile.name ⟨base, d, s⟩ l) base (i + 1) = genV l base (i + 1) := by
  unfold genV genF
  rw [get_put_ne hr]
  have := genName_ne (base := base) (i := i + 1) (k := 0) (by omega)
  rwa [genName_zero (base := base) (i := ((0 : Nat) : Int)) (by omega)] at this
theorem flatS_cat (xs ys : List Itm) : flatS xs ++ flatS ys = flatS (xs ++ ys) := by
  apply ba_ext
  unfold flatS
  rw [flatR_append]
  simp [str]
theorem flatS_size (xs : List Itm) : (flatS xs).size = (flatR xs).length := rfl
/-- all that is there, the oldest first -/
theorem all_of {D : List ByteArray} {c : Option ByteArray} (h0 : (genF l base 0).map SFile.data = c) : ∀ {k : Nat}, (∀ i, i + 1 < k → (genF l base (i + 1)).map SFile.data = D[i]?) → 0 < k →
    allP l base k = (D.take (k - 1)).reverse ++ c.toList
  | 0, _, hk => by omega
  | 1, _, _ => by
    rw [allP_succ, ← h0]
    cases genF l base 0 with
    | none => rfl
    | some f => rfl
  | k + 2, h, _ => by
    rw [allP_succ, all_of h0 (k := k + 1) (fun i hi => h i (by omega)) (by omega)]
    have hk := h k (by omega)
    cases hg : genF l base (k + 1) with
    | none =>
      rw [hg] at hk
      have : D.length ≤ k := List.getElem?_eq_none_iff.1 hk.symm
      simp only [List.nil_append]
      rw [List.take_of_length_le (by omega), List.take_of_length_le (by omega)]
    | some f =>
      rw [hg] at hk
      have hk : D[k]? = some f.data := hk.symm
      have hlt : k < D.length := (List.getElem?_eq_some_iff.1 hk).1
      have he : D[k] = f.data := (List.getElem?_eq_some_iff.1 hk).2
      rw [show k + 2 - 1 = k + 1 by omega, List.take_succ_eq_append_getElem hlt, List.reverse_append, he]
      simp
theorem genV_data {i : Nat} : (genF l base i).map SFile.data = (genV l base i).map Prod.fst := by
  unfold genV
  cases genF l base i <;> rfl
theorem Hist.all (h : Hist base k l G cur) : allP l base k = G.reverse ++ (cur.map fun c => flatS c.1).toList := by
  have hl := h.len
  rw [all_of (D := G) (c := cur.map fun c => flatS c.1) (by rw [genV_data, h.now]; cases cur <;> rfl) (fun i hi => by rw [genV_data, h.old i hi]; cases G[i]? <;> rfl) (by omega)]
  rw [List.take_of_length_le (by omega)]
theorem scan_nil : scanI [] = [] := rfl
theorem scan_flatS {xs : List Itm} (h : ∀ x ∈ xs, x.ok) : scanI (flatS xs).data.toList = xs := by
  have := scan_flat h []
  rwa [List.append_nil, scan_nil, List.append_nil] at this
theorem load_app (a b : List ByteArray) : loadP (a ++ b) = loadP a ++ loadP b := by unfold loadP; exact List.flatMap_append
theorem load_one (d : ByteArray) : loadP [d] = scanI d.data.toList := by unfold loadP; simp
theorem load_nil : loadP [] = [] := rfl
theorem Log.most (h : Log base k l al n gone G cur) : gone = [] ∨ k ≤ (allP l base k).length + 1 := by
  refine h.full.imp id fun hl => ?_
  rw [h.hist.all]
  simp
  omega
/-! a sync -/
theorem begin_zero {nm : ByteArray} (h : (beginC bad nm).1 = 0) : bad = 0 ∧ (beginC bad nm).2 = 0 ∧ namedP nm = true := by
  have hn := begin_named h
  unfold beginC at h ⊢
  rw [if_pos hn] at h ⊢
  by_cases hb : 0 < bad
  · rw [if_pos hb] at h; cases h
  · rw [if_neg hb]; exact ⟨by omega, by show bad = 0; omega, hn⟩
theorem begin_12 {nm : ByteArray} : (beginC bad nm).1 ≠ 7 := by
  unfold beginC
  split
  · split <;> simp
  · simp
theorem Log.mono (h : Log base k l al n gone G cur) {m : Nat} (hm : m ≤ n) : Log base k l al m gone G cur :=
  ⟨h.hist, h.all_, let ⟨q, a, b, c⟩ := h.sure; ⟨q, a, b, by omega⟩, h.full⟩
theorem Log.getc (h : Log base k l al n gone G cur) : (getG SFile.name base l).map (fun f => (f.data, f.sure)) = cur.map fun c => (flatS c.1, c.2) := by
  have := h.hist.now
  unfold genV at this
  rwa [gen_zero] at this
theorem Log.all_sure (h : Log base k l al n gone G cur) : ∃ q, q ≤ (curI cur).length ∧ (flatR ((curI cur).take q)).length ≤ (flatR (curI cur)).length ∧ al.length ≤ gone.length + ((loadP G.reverse).length + q) := by
  refine ⟨(curI cur).length, Nat.le_refl _, by rw [List.take_length]; exact Nat.le_refl _, ?_⟩
  rw [h.all_]
  simp only [List.length_append]
  exact Nat.le_refl _
/-- all of it is sure -/
theorem Log.sync (h : Log base k l al n gone G cur) (hc : (syncP bad l base).1 = 0 ∨ (syncP bad l base).1 = 7) : ∃ cur', Log base k (syncP bad l base).2.2 al al.length gone G cur' ∧ curI cur' = curI cur ∧ ((syncP bad l base).1 = 0 → curS cur' = (flatR (curI cur')).length ∧ bad = 0 ∧ (syncP bad l base).2.1 = 0 ∧ cur' ≠ none) := by
  have hg := h.getc
  have hr := h.hist.rise
  unfold syncP at hc ⊢
  by_cases hb : (beginC bad base).1 = 0
  · rw [if_neg (by simp [hb])] at hc ⊢
    obtain ⟨b0, b1, hn⟩ := begin_zero hb
    cases hf : getG SFile.name base l with
    | none =>
      rw [hf] at hg
      have hcn : cur = none := by cases cur with
        | none => rfl
        | some c => cases hg
      subst hcn
      refine ⟨none, ⟨h.hist, h.all_, h.all_sure, h.full⟩, rfl, fun h7 => ?_⟩
      simp at h7
    | some f =>
      rw [hf] at hg
      obtain ⟨c, rfl⟩ : ∃ c, cur = some c := by cases cur with
        | none => cases hg
        | some c => exact ⟨c, rfl⟩
      have hd : f.data = flatS c.1 := (Prod.mk.inj (Option.some.inj hg)).1
      refine ⟨some (c.1, (flatR c.1).length), ⟨⟨putG_rise hr _, ?_, fun i hi => ?_, h.hist.len, h.hist.okC, Nat.le_refl _⟩, h.all_, h.all_sure, h.full⟩, rfl, fun _ => ⟨rfl, b0, b1, by simp⟩⟩
      · rw [genV_put0 hr, hd]; rfl
      · rw [genV_put1 hr]; exact h.hist.old i hi
  · rw [if_pos hb] at hc
    exact absurd hc (fun hh => hh.elim hb begin_12)
theorem sync_no (hc : (syncP bad l base).1 ≠ 0) : (syncP bad l base).2.2 = l := by
  unfold syncP at hc ⊢
  by_cases hb : (beginC bad base).1 = 0
  · rw [if_neg (by simp [hb])] at hc ⊢
    cases hf : getG SFile.name base l with
    | none => rfl
    | some f => rw [hf] at hc; exact absurd rfl hc
  · rw [if_pos hb]
/-! an append -/
theorem app_no {b : ByteArray} (hc : (appendP mst bad l base b).1 ≠ 0) : (appendP mst bad l base b).2.2 = l := by
  unfold appendP at hc ⊢
  by_cases hb : (beginC bad base).1 = 0
  · rw [if_neg (by simp [hb])] at hc ⊢
    by_cases hm : mst < (totF l : Int) + b.size
    · rw [if_pos hm]
    · rw [if_neg hm] at hc ⊢
      cases hf : getG SFile.name base l with
      | none => rw [hf] at hc; exact absurd rfl hc
      | some f => rw [hf] at hc; exact absurd rfl hc
  · rw [if_pos hb]
theorem app_ok {b : ByteArray} (hc : (appendP mst bad l base b).1 = 0) : (appendP mst bad l base b).2.2 = match getG SFile.name base l with
    | none => putG SFile.name ⟨base, b, 0⟩ l
    | some f => putG SFile.name ⟨base, f.data ++ b, f.sure⟩ l := by
  unfold appendP at hc ⊢
  by_cases hb : (beginC bad base).1 = 0
  · rw [if_neg (by simp [hb])] at hc ⊢
    by_cases hm : mst < (totF l : Int) + b.size
    · rw [if_pos hm] at hc; cases hc
    · rw [if_neg hm]
      cases hf : getG SFile.name base l <;> rfl
  · rw [if_pos hb] at hc
    exact absurd hc hb
theorem flatS_one (x : Itm) : flatS [x] = str (recP x) := by unfold flatS; rw [flatR_cons]; simp [flatR]
theorem Log.append (h : Log base k l al n gone G cur) {x : Itm} (hx : x.ok) (hc : (appendP mst bad l base (str (recP x))).1 = 0) :
    ∃ cur', Log base k (appendP mst bad l base (str (recP x))).2.2 (al ++ [x]) n gone G cur' := by
  have hg := h.getc
  have hr := h.hist.rise
  rw [app_ok hc]
  obtain ⟨q, q1, q2, q3⟩ := h.sure
  have hrl := recP_len x
  cases hf : getG SFile.name base l with
  | none =>
    rw [hf] at hg
    have hcn : cur = none := by cases cur with
      | none => rfl
      | some c => cases hg
    subst hcn
    refine ⟨some ([x], 0), ⟨⟨putG_rise hr _, ?_, fun i hi => ?_, h.hist.len, ?_, Nat.zero_le _⟩, ?_, ⟨0, Nat.zero_le _, Nat.le_refl _, ?_⟩, h.full⟩⟩
    · rw [genV_put0 hr, ← flatS_one]; rfl
    · rw [genV_put1 hr]; exact h.hist.old i hi
    · intro y hy; simp [curI] at hy; rw [hy]; exact hx
    · rw [h.all_]; simp [curI]
    · have : q = 0 := by simpa [curI] using q1
      omega
  | some f =>
    rw [hf] at hg
    obtain ⟨c, rfl⟩ : ∃ c, cur = some c := by cases cur with
      | none => cases hg
      | some c => exact ⟨c, rfl⟩
    obtain ⟨hd, hs⟩ := Prod.mk.inj (Option.some.inj hg)
    refine ⟨some (c.1 ++ [x], c.2), ⟨⟨putG_rise hr _, ?_, fun i hi => ?_, h.hist.len, ?_, ?_⟩, ?_, ⟨q, ?_, ?_, q3⟩, h.full⟩⟩
    · try simp only
      rw [genV_put0 hr, hd, hs, ← flatS_one, flatS_cat]; rfl
    · try simp only
      rw [genV_put1 hr]; exact h.hist.old i hi
    · intro y hy
      simp only [curI, List.mem_append, List.mem_singleton] at hy
      rcases hy with hy | rfl
      · exact h.hist.okC y hy
      · exact hx
    · have := h.hist.sure
      simp only [curI, curS] at this ⊢
      rw [flatR_append, List.length_append]
      omega
    · rw [h.all_]; simp [curI]
    · simp only [curI, List.length_append] at q1 ⊢; omega
    · simp only [curI, curS] at q1 q2 ⊢
      rw [List.take_append_of_le_length q1]
      exact q2
/-! a turn -/
/-- a log of which all bytes are sure, whatever bytes they are: behind a crash, or behind a sync -/
structure Cut (base : ByteArray) (k : Nat) (l : List SFile) (all gone : List Itm) (G : List ByteArray) (cur : Option ByteArray) : Prop where
  rise : Rise SFile.name l
  now : genV l base 0 = cur.map fun d => (d, d.size)
  old : ∀ i, i + 1 < k → genV l base (i + 1) = G[i]?.map fun d => (d, d.size)
  len : G.length + 1 ≤ k
  all_ : all = gone ++ (loadP G.reverse ++ loadP cur.toList)
  full : gone = [] ∨ G.length + 1 = k
theorem Cut.none_ (hk : 1 ≤ k) : Cut base k [] [] [] [] none :=
  ⟨List.Pairwise.nil, rfl, fun i hi => rfl, by simp; omega, rfl, .inl rfl⟩
theorem Cut.read {cur : Option ByteArray} (h : Cut base k l al gone G cur) : allP l base k = G.reverse ++ cur.toList := by
  have hl := h.len
  rw [all_of (D := G) (c := cur) (by rw [genV_data, h.now]; cases cur <;> rfl) (fun i hi => by rw [genV_data, h.old i hi]; cases G[i]? <;> rfl) (by omega)]
  rw [List.take_of_length_le (by omega)]
/-- nothing is there to be turned -/
theorem Cut.empty (h : Cut base k l al gone G none) : Log base k l al al.length gone G none := by
  have e := h.all_
  simp only [Option.toList_none, load_nil] at e
  refine ⟨⟨h.rise, h.now, h.old, h.len, by simp [curI], by simp [curS]⟩, e, ⟨0, Nat.zero_le _, Nat.zero_le _, ?_⟩, h.full⟩
  rw [e]; simp
theorem Cut.turn {d : ByteArray} (h : Cut base k l al gone G (some d)) (hnm : ∀ i : Nat, i ≤ 16 → namedP (genName base i) = true) (hk : k ≤ 16) :
    (turnP base (k - 1) 0 l).1 = 0 ∧ (turnP base (k - 1) 0 l).2.1 = 0 ∧ ∃ gone' G', Log base k (turnP base (k - 1) 0 l).2.2 al al.length gone' G' none := by
  have hlen := h.len
  obtain ⟨a1, a2, a3, a4, a5, a6⟩ := turn_ok (base := base) (l := l) hnm (k - 1) (by omega) h.rise
  refine ⟨a1, a2, ?_⟩
  obtain ⟨l2, hl2⟩ : ∃ l2, l2 = (turnP base (k - 1) 0 l).2.2 := ⟨_, rfl⟩
  rw [← hl2] at a3 a4 a5 ⊢
  have hold : ∀ i, i + 1 < k → genV l2 base (i + 1) = ((d :: G).take (k - 1))[i]?.map fun x => (x, x.size) := by
    intro i hi
    rw [a4 i (by omega), List.getElem?_take, if_pos (by omega)]
    rcases i with _ | i
    · rw [h.now]; simp
    · rw [h.old i (by omega)]; simp
  have hall := h.all_
  simp only [Option.toList_some] at hall
  have hsplit : ∀ m, loadP (d :: G).reverse = loadP ((d :: G).drop m).reverse ++ loadP ((d :: G).take m).reverse := by
    intro m
    rw [← load_app, ← List.reverse_append, List.take_append_drop]
  have h2 : loadP (d :: G).reverse = loadP G.reverse ++ loadP [d] := by rw [List.reverse_cons, load_app]
  rw [← h2] at hall
  by_cases hfl : G.length + 1 = k
  · refine ⟨gone ++ loadP ((d :: G).drop (k - 1)).reverse, (d :: G).take (k - 1), ⟨⟨a3, by rw [a5]; rfl, hold, by simp; omega, by simp [curI], by simp [curS]⟩, ?_, ?_, .inr (by simp; omega)⟩⟩
    · rw [hall, hsplit (k - 1)]; simp [curI]
    · refine ⟨0, Nat.zero_le _, Nat.zero_le _, ?_⟩
      rw [hall, hsplit (k - 1)]
      simp only [List.length_append]
      omega
  · have hg0 : gone = [] := h.full.resolve_right hfl
    have htk : (d :: G).take (k - 1) = d :: G := List.take_of_length_le (by simp; omega)
    rw [htk] at hold
    refine ⟨[], d :: G, ⟨⟨a3, by rw [a5]; rfl, hold, by simp; omega, by simp [curI], by simp [curS]⟩, ?_, ⟨0, Nat.zero_le _, Nat.zero_le _, ?_⟩, .inl rfl⟩⟩
    · rw [hall, hg0]; simp [curI]
    · rw [hall, hg0]; simp
theorem Log.turned (h : Log base k l al n gone G cur) (hnm : ∀ i : Nat, i ≤ 16 → namedP (genName base i) = true) (hk : k ≤ 16) (hc : (syncP bad l base).1 = 0) :
    (turnedP base k bad l).1 = 0 ∧ (turnedP base k bad l).2.1 = 0 ∧ ∃ gone' G', Log base k (turnedP base k bad l).2.2 al al.length gone' G' none := by
  obtain ⟨cur', hL, hci, h0⟩ := h.sync (bad := bad) (.inl hc)
  obtain ⟨hs, _, hb0, hne⟩ := h0 hc
  obtain ⟨c, rfl⟩ : ∃ c, cur' = some c := by cases cur' with
    | none => exact absurd rfl hne
    | some c => exact ⟨c, rfl⟩
  unfold turnedP
  rw [if_neg (by simp [hc]), hb0]
  simp only [curS, curI] at hs
  have hC : Cut base k (syncP bad l base).2.2 al gone G (some (flatS c.1)) := by
    refine ⟨hL.hist.rise, ?_, hL.hist.old, hL.hist.len, ?_, hL.full⟩
    · rw [hL.hist.now]; simp [hs, flatS_size]
    · rw [hL.all_]
      congr 2
      exact ((load_one _).trans (scan_flatS hL.hist.okC)).symm
  exact hC.turn hnm hk
theorem Log.put (h : Log base k l al n gone G cur) (hnm : ∀ i : Nat, i ≤ 16 → namedP (genName base i) = true) (hk : k ≤ 16) (hn : n ≤ al.length) {x : Itm} (hx : x.ok) (R : Int × Nat × List SFile) (hR : R = putP mst base k size bad l (str (recP x))) :
    (R.1 = 0 ∧ ∃ gone' G' cur', Log base k R.2.2 (al ++ [x]) n gone' G' cur') ∨ (R.1 ≠ 0 ∧ ∃ gone' G' cur', Log base k R.2.2 al n gone' G' cur') := by
  unfold putP at hR
  by_cases ht : 0 < szG base l ∧ size < szG base l + (str (recP x)).size
  · rw [if_pos ht] at hR
    by_cases hs : (syncP bad l base).1 = 0
    · obtain ⟨t1, t2, gone', G', hL⟩ := h.turned hnm hk hs
      rw [if_neg (by simp [t1])] at hR
      subst hR
      have hL := hL.mono hn
      by_cases ha : (appendP mst (turnedP base k bad l).2.1 (turnedP base k bad l).2.2 base (str (recP x))).1 = 0
      · obtain ⟨cur', hA⟩ := hL.append hx ha
        exact .inl ⟨ha, _, _, _, hA⟩
      · refine .inr ⟨ha, gone', G', none, ?_⟩
        rw [app_no ha]
        exact hL
    · have e : turnedP base k bad l = syncP bad l base := by unfold turnedP; rw [if_pos hs]
      rw [e, if_pos hs] at hR
      subst hR
      refine .inr ⟨hs, gone, G, cur, ?_⟩
      rw [sync_no hs]
      exact h
  · rw [if_neg ht] at hR
    subst hR
    by_cases ha : (appendP mst bad l base (str (recP x))).1 = 0
    · obtain ⟨cur', hA⟩ := h.append hx ha
      exact .inl ⟨ha, _, _, _, hA⟩
    · refine .inr ⟨ha, gone, G, cur, ?_⟩
      rw [app_no ha]
      exact h
theorem Log.none_ (hk : 1 ≤ k) : Log base k [] [] 0 [] [] none :=
  ⟨⟨List.Pairwise.nil, rfl, fun i hi => rfl, by simp; omega, by simp [curI], by simp [curS]⟩, rfl, ⟨0, Nat.zero_le _, Nat.zero_le _, Nat.zero_le _⟩, .inl rfl⟩
/-! a crash -/
theorem getG_idx (nm : ByteArray) : ∀ (l : List SFile) (g : Nat → SFile → SFile), (∀ i f, (g i f).name = f.name) →
    (getG SFile.name nm l = none ∧ getG SFile.name nm (l.mapIdx g) = none) ∨ ∃ j f, getG SFile.name nm l = some f ∧ getG SFile.name nm (l.mapIdx g) = some (g j f)
  | [], _, _ => .inl ⟨rfl, rfl⟩
  | f :: l, g, hg => by
    rw [List.mapIdx_cons]
    unfold getG
    rw [List.find?_cons, List.find?_cons, hg]
    by_cases he : f.name = nm
    · rw [decide_eq_true he]
      exact .inr ⟨0, f, rfl, rfl⟩
    · rw [decide_eq_false he]
      rcases getG_idx nm l (fun i => g (i + 1)) (fun i f => hg _ f) with ⟨h1, h2⟩ | ⟨j, f', h1, h2⟩
      · exact .inl ⟨h1, h2⟩
      · exact .inr ⟨j + 1, f', h1, h2⟩
theorem genV_crash (keep : List Int) (i : Nat) : (genV l base i = none ∧ genV (crashP keep l) base i = none) ∨ ∃ d s m, genV l base i = some (d, s) ∧ genV (crashP keep l) base i = some (d.extract 0 (s + m), s + m) ∧ (s ≤ d.size → s + m ≤ d.size) := by
  unfold genV genF crashP
  rcases getG_idx (genName base (i : Nat)) l (crashF keep) (fun _ _ => rfl) with ⟨h1, h2⟩ | ⟨j, f, h1, h2⟩
  · rw [h1, h2]; exact .inl ⟨rfl, rfl⟩
  · rw [h1, h2]
    exact .inr ⟨f.data, f.sure, moreC keep j f, rfl, rfl, fun hs => crashF_size keep j hs⟩
theorem extract_all (d : ByteArray) : d.extract 0 d.size = d := by
  apply ba_ext
  simp
theorem take_flat {xs : List Itm} (m : Nat) : ((flatS xs).extract 0 m).data.toList = (flatR xs).take m := by
  unfold flatS
  simp only [ByteArray.data_extract, Array.toList_extract, List.extract_eq_take_drop, str_list]
  simp
theorem crash_rise (keep : List Int) {l : List SFile} (h : Rise SFile.name l) : Rise SFile.name (crashP keep l) := by
  unfold Rise at h ⊢
  have e : (crashP keep l).map SFile.name = l.map SFile.name := by
    apply List.ext_getElem?
    intro i
    unfold crashP
    rw [List.getElem?_map, List.getElem?_map, List.getElem?_mapIdx]
    cases l[i]? <;> rfl
  have h2 : (l.map SFile.name).Pairwise fun a b => nmLt a b = true := by rw [List.pairwise_map]; exact h
  rw [← e, List.pairwise_map] at h2
  exact h2
/-- behind a crash: a piece, which ends not ahead of what was sure; all of it is sure then -/
theorem Log.crash2 (h : Log base k l al n gone G cur) (keep : List Int) : ∃ rest cur', al = gone ++ (loadP (allP (crashP keep l) base k) ++ rest) ∧ n ≤ gone.length + (loadP (allP (crashP keep l) base k)).length ∧ Cut base k (crashP keep l) (loadP (allP (crashP keep l) base k)) [] G cur' := by
  have hH := h.hist
  have hrc : Rise SFile.name (crashP keep l) := crash_rise keep hH.rise
  have hold : ∀ i, i + 1 < k → genV (crashP keep l) base (i + 1) = G[i]?.map fun d => (d, d.size) := by
    intro i hi
    have ho := hH.old i hi
    rcases genV_crash (l := l) (base := base) keep (i + 1) with ⟨h1, h2⟩ | ⟨d, s, m, h1, h2, h3⟩
    · rw [h2, ← ho, h1]
    · rw [h2]
      rw [h1] at ho
      cases hg : G[i]? with
      | none => rw [hg] at ho; cases ho
      | some xs =>
        rw [hg] at ho
        obtain ⟨e1, e2⟩ := Prod.mk.inj (Option.some.inj ho)
        subst e1 e2
        have hle := h3 (Nat.le_refl _)
        have hm : m = 0 := by omega
        subst hm
        show some (d.extract 0 d.size, d.size) = some (d, d.size)
        rw [extract_all]
  have hlen := hH.len
  obtain ⟨q, q1, q2, q3⟩ := h.sure
  rcases genV_crash (l := l) (base := base) keep 0 with ⟨h1, h2⟩ | ⟨d, s, m, h1, h2, h3⟩
  · have hn := hH.now
    rw [h1] at hn
    have hcn : cur = none := by cases cur with
      | none => rfl
      | some c => cases hn
    subst hcn
    have hC : ∀ al', al' = [] ++ (loadP G.reverse ++ loadP (none : Option ByteArray).toList) → Cut base k (crashP keep l) al' [] G none := fun al' ha => ⟨hrc, by rw [h2]; rfl, hold, hlen, ha, .inl rfl⟩
    have e := (hC _ rfl).read
    have hz : loadP (allP (crashP keep l) base k) = loadP G.reverse ++ loadP (none : Option ByteArray).toList := by rw [e, load_app]
    refine ⟨[], none, ?_, ?_, hC _ (by rw [hz]; rfl)⟩
    · rw [h.all_, hz]; simp [curI, load_nil]
    · have : q = 0 := by simpa [curI] using q1
      rw [hz]
      simp [load_nil] at q3 ⊢
      omega
  · have hn := hH.now
    rw [h1] at hn
    obtain ⟨c, rfl⟩ : ∃ c, cur = some c := by cases cur with
      | none => cases hn
      | some c => exact ⟨c, rfl⟩
    obtain ⟨e1, e2⟩ := Prod.mk.inj (Option.some.inj hn)
    try simp only at e1 e2
    subst e1 e2
    have hsm := h3 (by rw [flatS_size]; exact hH.sure)
    have hC : ∀ al', al' = [] ++ (loadP G.reverse ++ loadP (some ((flatS c.1).extract 0 (c.2 + m))).toList) → Cut base k (crashP keep l) al' [] G (some ((flatS c.1).extract 0 (c.2 + m))) := fun al' ha => by
      refine ⟨hrc, ?_, hold, hlen, ha, .inl rfl⟩
      rw [h2]
      have : ((flatS c.1).extract 0 (c.2 + m)).size = c.2 + m := by simp only [ByteArray.size_extract]; omega
      simp [this]
    have e := (hC _ rfl).read
    obtain ⟨z, z1, z2, _, z4⟩ := scan_take hH.okC (c.2 + m)
    simp only [curI, curS] at q1 q2 z1 z2 z4
    have hz1 : loadP (some ((flatS c.1).extract 0 (c.2 + m))).toList = c.1.take z := by
      show loadP [_] = _
      rw [load_one, take_flat, z2]
    have hz : loadP (allP (crashP keep l) base k) = loadP G.reverse ++ c.1.take z := by
      rw [e, load_app, hz1]
    have hq := z4 q q1 (by omega)
    rw [hz]
    refine ⟨c.1.drop z, _, ?_, ?_, hC _ (by rw [hz1]; rfl)⟩
    · rw [h.all_]
      simp [curI]
    · rw [List.length_append, List.length_take]
      omega
theorem Log.crash (h : Log base k l al n gone G cur) (keep : List Int) : ∃ rest, al = gone ++ (loadP (allP (crashP keep l) base k) ++ rest) ∧ n ≤ gone.length + (loadP (allP (crashP keep l) base k)).length := by
  obtain ⟨r, _, h1, h2, _⟩ := h.crash2 keep
  exact ⟨r, h1, h2⟩
end
/-! what gaps tell -/
end Go.Proofs.YtkmpdobojgiegaaGreatDoor

/-
  sum: the sum of a text, and a sum as bytes; record: a number as bytes behind others.
-/
namespace Go.Proofs.YtkmpdobojgiegaaGreatDoor
open Go.RowKit

theorem beP_cons : ∀ (k n : Nat), beP (k + 1) n = UInt8.ofNat (n / 256 ^ k % 256) :: beP k n
  | 0, n => by unfold beP; simp [beP]
  | k + 1, n => by
    have ih := beP_cons k (n / 256)
    conv => lhs; unfold beP
    rw [ih]
    conv => rhs; unfold beP
    rw [List.cons_append, Nat.div_div_eq_div_mul, Nat.pow_succ, Nat.mul_comm 256]
set_option maxRecDepth 100000 in
theorem on_any (w : World) (h : Nat) (c : UInt8) (hh : h ≤ 2147483646) : Calls Tryz.prog 259 #[.int .i64 h, .int .u8 c.toNat] w fun e w' => e = .returned (.int .i64 (onP h c : Nat)) ∧ w' = w := by
  have hc : c.toNat ≤ 255 := by have := c.toNat_lt; omega
  have ho : ((onP h c : Nat) : Int) = ((h : Int) * 257 + (c.toNat : Int) + 1) % 2147483647 := by unfold onP; omega
  obtain ⟨x, hx⟩ : ∃ x, x = c.toNat := ⟨_, rfl⟩
  rw [← hx] at hc ho ⊢
  have HO := Lib.hid ho
  clear ho hx
  go_enter Tryz.func259, Tryz.ntmps259
  go_wp2_with fail
  go_ret
  exact ⟨by rw [HO.out]; rfl, rfl⟩
theorem sum_take {s : ByteArray} {i : Nat} (h : i < s.size) : sumP (s.data.toList.take (i + 1)) = onP (sumP (s.data.toList.take i)) (s[i]'h) := by
  rw [List.take_succ_eq_append_getElem (by simpa using h), sumP_snoc]; rfl
set_option maxRecDepth 100000 in
theorem sall_any (w : World) (s : ByteArray) (hs : s.size ≤ 4611686018427387904) : Calls Tryz.prog 240 #[.int .i64 0, .string s] w fun e w' => e = .returned (.int .i64 (sumP s.data.toList : Nat)) ∧ w' = w := by
  go_enter Tryz.func240, Tryz.ntmps240
  go_wp2_with fail
  go_loopw [0, 8] (fun u0 u8 wr => w = wr ∧ ∃ i h : Nat, u8 = .int .i64 i ∧ u0 = .int .i64 h ∧ i ≤ s.size ∧ Hid (h = sumP (s.data.toList.take i))) (fun _ u8 _ => s.size - (intOf u8).toNat)
  case atStart => exact ⟨rfl, 0, 0, rfl, rfl, Nat.zero_le _, Lib.hid rfl⟩
  case round =>
    obtain ⟨rfl, i, h, rfl, rfl, hi, HH⟩ := hrel
    by_cases hlt : i < s.size
    · have hst := sum_take hlt
      rw [← HH.out] at hst
      have hb : h ≤ 2147483646 := by rw [HH.out]; have := sumP_lt (s.data.toList.take i); omega
      have HON := Lib.hid (on_any w h (s[i]'hlt) hb)
      obtain ⟨o, ho⟩ : ∃ o, o = onP h (s[i]'hlt) := ⟨_, rfl⟩
      rw [← ho] at hst HON
      have HST := Lib.hid hst
      clear hst ho
      go_wp2_with fail
      refine HON.out.mono ?_
      rintro e w2 ⟨rfl, hw⟩
      obtain rfl : w = w2 := hw.symm
      go_wp2_with fail
      go_roundw
      case rel => exact ⟨trivial, i + 1, o, by go_num, rfl, by omega, Lib.hid HST.out.symm⟩
      case measure => simp [intOf]; omega
    · have hh : h = sumP s.data.toList := by rw [HH.out, List.take_of_length_le (by simp; omega)]
      have HX := Lib.hid hh
      clear hh
      go_wp2_with fail
      go_ret
      exact ⟨by rw [← HX.out]; rfl, rfl⟩
theorem sof_any (w : World) (s : ByteArray) (hs : s.size ≤ 4611686018427387904) : Calls Tryz.prog 196 #[.string s] w fun e w' => e = .returned (.int .i64 (sumP s.data.toList : Nat)) ∧ w' = w := by
  have H := Lib.hid (sall_any w s hs)
  go_enter Tryz.func196, Tryz.ntmps196
  go_wp2_with fail
  refine H.out.mono ?_
  rintro e w2 ⟨rfl, hw⟩
  obtain rfl : w = w2 := hw.symm
  go_wp2_with fail
  go_ret
  exact ⟨rfl, rfl⟩
set_option maxRecDepth 100000 in
theorem sin_any (w : World) (n : Nat) (h : n ≤ 2147483646) : Calls Tryz.prog 239 #[.int .i64 n] w fun e w' => e = .returned (.bool true) ∧ w' = w := by
  have t1 : decide ((n : Int) < 2147483647) = true := by rw [decide_eq_true_iff]; omega
  go_enter Tryz.func239, Tryz.ntmps239
  go_wp2_with fail
  go_ret
  exact ⟨rfl, rfl⟩
set_option maxRecDepth 100000 in
theorem isTick_any (w : World) (n : Int) (b : Bool) (hb : b = (decide (0 ≤ n) && decide (n ≤ 1099511627776))) : Calls Tryz.prog 126 #[.int .i64 n] w fun e w' => e = .returned (.bool b) ∧ w' = w := by
  by_cases h1 : 0 ≤ n
  · by_cases h2 : n ≤ 1099511627776
    · rw [decide_eq_true h1, decide_eq_true h2] at hb
      have HB := Lib.hid hb
      clear hb
      go_enter Tryz.func126, Tryz.ntmps126
      go_wp2_with fail
      go_ret
      exact ⟨by rw [HB.out]; rfl, rfl⟩
    · rw [decide_eq_false h2, Bool.and_false] at hb
      have HB := Lib.hid hb
      clear hb
      go_enter Tryz.func126, Tryz.ntmps126
      go_wp2_with fail
      go_ret
      exact ⟨by rw [HB.out]; rfl, rfl⟩
  · rw [decide_eq_false h1, Bool.false_and] at hb
    have HB := Lib.hid hb
    clear hb
    go_enter Tryz.func126, Tryz.ntmps126
    go_wp2_with fail
    go_ret
    exact ⟨by rw [HB.out]; rfl, rfl⟩
theorem byte_shr (n j : Nat) : (((UInt8.ofNat (n / 256 ^ j % 256)).toNat : Nat) : Int) = (n : Int) / 2 ^ (8 * j) % 256 := by
  rw [byte_mod, show (256 : Nat) ^ j = 2 ^ (8 * j) by rw [Nat.pow_mul]]
  have : ((2 : Int) ^ (8 * j)) = ((2 ^ (8 * j) : Nat) : Int) := by rw [Int.natCast_pow]; rfl
  rw [this]
  omega
set_option maxRecDepth 100000 in
set_option maxHeartbeats 1000000 in
theorem sumnumber_any (w : World) (v : Value) (l : List UInt8) (n wide : Nat) (hv : OwnQ w 5 v (u8Vs l)) (hw8 : wide ≤ 6) (hl : l.length ≤ 1048576) :
    Calls Tryz.prog 194 #[v, .int .i64 n, .int .i64 wide] w fun e w' => ∃ v', e = .returned v' ∧ OwnQ w' 5 v' (u8Vs (l ++ beP wide n)) ∧ (rowB v' = rowB v ∨ ∃ r, rowB v' = some r ∧ w.heap.size ≤ r) ∧ Keeps (fun i => rowB v = some i) w w' := by
  have HV := Lib.hid hv
  clear hv
  go_enter Tryz.func194, Tryz.ntmps194
  go_wp2_with fail
  go_loopw [0, 7] (fun u0 u7 wr => ∃ (j : Nat) (l2 : List UInt8), u7 = .int .i64 ((j : Int) - 1) ∧ j ≤ wide ∧ Hid (l2 ++ beP j n = l ++ beP wide n ∧ OwnQ wr 5 u0 (u8Vs l2) ∧ (rowB u0 = rowB v ∨ ∃ r, rowB u0 = some r ∧ w.heap.size ≤ r) ∧ Keeps (fun i => rowB v = some i) w wr)) (fun _ u7 _ => (intOf u7 + 1).toNat)
  case atStart => exact ⟨wide, l, by first | rfl | go_num, Nat.le_refl _, Lib.hid ⟨rfl, HV.out, .inl rfl, Keeps.refl _ _⟩⟩
  case round =>
    obtain ⟨j, l2, rfl, hj, HI⟩ := hrel
    rename World => wr
    rcases j with _ | j
    · have hh := HI.out.1
      rw [show beP 0 n = [] from rfl, List.append_nil] at hh
      have HH := Lib.hid hh
      have HO := Lib.hid HI.out.2.1
      have HR := Lib.hid HI.out.2.2.1
      have HK := Lib.hid HI.out.2.2.2
      obtain ⟨a0, c0, hv0⟩ := HO.out.sl
      clear hh HI
      go_wp2_with fail
      go_ret
      exact ⟨u0, rfl, by rw [← HH.out]; exact HO.out, HR.out, HK.out⟩
    · have hbc := beP_cons j n
      have hcv := byte_shr n j
      obtain ⟨cb, hcb⟩ : ∃ cb, cb = UInt8.ofNat (n / 256 ^ j % 256) := ⟨_, rfl⟩
      rw [← hcb] at hbc hcv
      have HBC := Lib.hid hbc
      have HCV := Lib.hid hcv
      have HH := Lib.hid HI.out.1
      have HO := Lib.hid HI.out.2.1
      have HR := Lib.hid HI.out.2.2.1
      have HK := Lib.hid HI.out.2.2.2
      obtain ⟨a0, c0, hv0⟩ := HO.out.sl
      have hlen : l2.length ≤ 2097152 := by
        have h1 := congrArg List.length HI.out.1
        rw [List.length_append, List.length_append, beP_len, beP_len] at h1
        omega
      obtain ⟨m2, hm2⟩ : ∃ m2, m2 = (u8Vs l2).length := ⟨_, rfl⟩
      rw [← hm2] at hv0
      subst hv0
      have hul : (u8Vs l2).length ≤ 17179869184 := by rw [u8Vs_len]; omega
      have HUL := Lib.hid hul
      have hwz := HK.out.size
      clear hbc hcv hcb HI hm2 hul
      go_wp2_with (with_reducible show wpList _ _ _ (⟨some 21, _, _, _, _, _⟩ :: _) _ _; go_must (refine wpList_append_q rfl (.tmp 14) (.tmp 20) 126 rfl 5 (.int .u8 0) 1 Tryz.underlying126 (by kernel_rfl) rfl (by omega) (.slice a0 m2 c0) (u8Vs l2) rfl (OwnQ.keeps (S := fun _ => False) HO.out ((Keeps.refl _ _).alloc _) (fun _ _ _ => id)) ⟨wr.heap.size, 0, none⟩ 1 (.int .u8 ((n : Int) / 2 ^ (8 * j) % 256)) rfl (by go_simp) rfl HUL.out ?_; intro v7 w7 O7 k7 hr7; have HO7 := Lib.hid O7; have HK7 := Lib.hid k7; have HR7 := Lib.hid hr7; clear O7 k7 hr7))
      go_roundw
      case rel =>
        have hk : Keeps (fun i => rowB v = some i) w w7 := (HK.out.alloc _).and_ HK7.out (fun i hi e => by
          rcases HR.out with h1 | ⟨r, h1, h2⟩
          · rw [← h1]; exact e
          · rw [h1] at e; injection e with e; omega)
        refine ⟨j, l2 ++ [cb], by go_num, by omega, Lib.hid ⟨by rw [List.append_assoc, List.singleton_append, ← HBC.out]; exact HH.out, ?_, ?_, hk⟩⟩
        · have := HO7.out
          rw [← HCV.out] at this
          rw [u8Vs_app]
          exact this
        · rcases HR7.out with h1 | h1
          · rw [h1]; exact HR.out
          · exact .inr ⟨_, h1, by simp; omega⟩
      case measure => simp [intOf]
end Go.Proofs.YtkmpdobojgiegaaGreatDoor

/-
  sum: a sum as bytes; record: which items may be, and an item as bytes.
-/
namespace Go.Proofs.YtkmpdobojgiegaaGreatDoor
open Go.RowKit

theorem bv_fill (L : List UInt8) (i : Nat) (c : UInt8) (x : Int) (hx : (c.toNat : Int) = x) : (bv L).setIfInBounds i (.int .u8 x) = bv (L.set i c) := by
  subst hx
  unfold bv
  simp [List.map_set]
theorem high_byte {n x : Nat} (hn : n ≤ 2147483646) (h : (x : Int) = (n : Int) / 2 ^ (8 * 3) % 256) : (x : Int) = (n : Int) / 16777216 := by
  have e : ((2 : Int) ^ (8 * 3)) = 16777216 := by decide
  rw [e] at h
  omega
/-- a row of four bytes, of which the last i are those of n -/
def rowP (i n : Nat) : List UInt8 := List.replicate (4 - i) 0 ++ beP i n
theorem rowP_step (i n : Nat) (hi : i < 4) : rowP (i + 1) n = (rowP i n).set (3 - i) (UInt8.ofNat (n / 256 ^ i % 256)) := by
  unfold rowP
  rw [beP_cons]
  have e : 4 - i = (3 - i) + 1 := by omega
  rw [show 4 - (i + 1) = 3 - i by omega, e, List.replicate_succ', List.append_assoc, List.set_append_right _ _ (by simp)]
  simp
set_option maxRecDepth 100000 in
set_option maxHeartbeats 1000000 in
theorem sput_any (w : World) (n : Nat) (hn : n ≤ 2147483646) : Calls Tryz.prog 195 #[.int .i64 n] w fun e w' => e = .returned (.string (str (beP 4 n))) ∧ Keeps (fun _ => False) w w' := by
  have HI := Lib.hid (sin_any w n hn)
  go_enter Tryz.func195, Tryz.ntmps195
  go_wp2_with fail
  refine HI.out.mono ?_
  rintro e w1 ⟨rfl, hw⟩
  obtain rfl : w = w1 := hw.symm
  go_wp2_with (with_reducible show wpList _ _ _ (⟨some 8, _, _, _, _, _⟩ :: _) _ _; go_must (refine wpList_make_bytes _ rfl _ _ _ rfl 5 Tryz.underlying126 (by kernel_rfl) 4 4 rfl rfl (by omega) (by omega) ?_; intro w2 hm; have HM := Lib.hid hm; clear hm))
  have hb0 : Blk w2 w.heap.size 5 (bv (rowP 0 n)) := HM.out.blk
  have hk0 := HM.out.keeps (Keeps.refl (fun _ => False) w)
  obtain ⟨g, hg⟩ : ∃ g, g = w.heap.size := ⟨_, rfl⟩
  rw [← hg] at hb0 ⊢
  have HB0 := Lib.hid hb0
  have HK0 := Lib.hid hk0
  have HG := Lib.hid hg
  clear hb0 hk0 hg HM
  go_loopw [9] (fun u9 wr => ∃ i : Nat, u9 = .int .i64 i ∧ i ≤ 4 ∧ Hid (Blk wr g 5 (bv (rowP i n)) ∧ Keeps (fun _ => False) w wr)) (fun u9 _ => 4 - (intOf u9).toNat)
  case atStart => exact ⟨0, rfl, by omega, Lib.hid ⟨HB0.out, HK0.out⟩⟩
  case round =>
    obtain ⟨i, rfl, hi, HH⟩ := hrel
    rename World => wr
    by_cases h4 : i < 4
    · have hst := rowP_step i n h4
      have hcv := byte_shr n i
      obtain ⟨c, hc⟩ : ∃ c, c = UInt8.ofNat (n / 256 ^ i % 256) := ⟨_, rfl⟩
      rw [← hc] at hst hcv
      have HST := Lib.hid hst
      have HCV := Lib.hid hcv
      have hlen : (rowP i n).length = 4 := by unfold rowP; rw [List.length_append, List.length_replicate, beP_len]; omega
      have hcell : ∀ k, k < 4 → ∃ u, wr.cell? ⟨g, k, none⟩ = some u ∧ wr.frozen? ⟨g, k, none⟩ = false := fun k hk => by
        have := HH.out.1.cell k
        rw [bv_get _ _ (by rw [hlen]; exact hk)] at this
        exact ⟨_, this, HH.out.1.frozen k⟩
      have HCE := Lib.hid hcell
      clear hst hcv hc hlen hcell
      rcases (show i = 0 ∨ i = 1 ∨ i = 2 ∨ i = 3 by omega) with rfl | rfl | rfl | rfl
      · obtain ⟨u, hu, hf⟩ := HCE.out 3 (by omega)
        go_wp2_with fail
        exact ⟨⟨1, rfl, by omega, Lib.hid ⟨by rw [HST.out, ← bv_fill _ _ _ _ (show (c.toNat : Int) = _ from by have := HCV.out; simpa using this)]; exact HH.out.1.set_ 3 _, HH.out.2.setCell (fun h => by rw [HG.out] at h; exact absurd h (Nat.lt_irrefl _)) _⟩⟩, by simp [intOf]⟩
      · obtain ⟨u, hu, hf⟩ := HCE.out 2 (by omega)
        go_wp2_with fail
        exact ⟨⟨2, rfl, by omega, Lib.hid ⟨by rw [HST.out, ← bv_fill _ _ _ _ (show (c.toNat : Int) = _ from by have := HCV.out; simpa using this)]; exact HH.out.1.set_ 2 _, HH.out.2.setCell (fun h => by rw [HG.out] at h; exact absurd h (Nat.lt_irrefl _)) _⟩⟩, by simp [intOf]⟩
      · obtain ⟨u, hu, hf⟩ := HCE.out 1 (by omega)
        go_wp2_with fail
        exact ⟨⟨3, rfl, by omega, Lib.hid ⟨by rw [HST.out, ← bv_fill _ _ _ _ (show (c.toNat : Int) = _ from by have := HCV.out; simpa using this)]; exact HH.out.1.set_ 1 _, HH.out.2.setCell (fun h => by rw [HG.out] at h; exact absurd h (Nat.lt_irrefl _)) _⟩⟩, by simp [intOf]⟩
      · obtain ⟨u, hu, hf⟩ := HCE.out 0 (by omega)
        go_wp2_with fail
        exact ⟨⟨4, rfl, by omega, Lib.hid ⟨by rw [HST.out, ← bv_fill _ _ _ _ (show (c.toNat : Int) = (n : Int) / 16777216 from high_byte hn HCV.out)]; exact HH.out.1.set_ 0 _, HH.out.2.setCell (fun h => by rw [HG.out] at h; exact absurd h (Nat.lt_irrefl _)) _⟩⟩, by simp [intOf]⟩
    · obtain rfl : i = 4 := by omega
      have hs : rowP 4 n = beP 4 n := rfl
      have hbb := HH.out.1
      rw [hs] at hbb
      have HBB := Lib.hid hbb
      have HK := Lib.hid HH.out.2
      have hlt := hbb.lt
      clear hs hbb HH
      go_wp2_with (with_reducible show wpList _ _ _ (⟨some 23, _, _, _, _, _⟩ :: _) _ _; go_must (refine wpList_string_bytes _ rfl _ _ _ rfl 5 Tryz.underlying126 Tryz.underlying5 Tryz.underlying9 g 0 4 4 rfl (beP 4 n) (beP_len _ _) (fun j v hj => by have := HBB.out.cell j; rw [bv_get _ _ (List.getElem?_eq_some_iff.1 hj).1] at this; rw [(List.getElem?_eq_some_iff.1 hj).2] at this; simpa using this) ?_))
      go_ret
      exact ⟨rfl, HK.out⟩
end Go.Proofs.YtkmpdobojgiegaaGreatDoor

/-
  record: which items may be, and an item as bytes.
-/
namespace Go.Proofs.YtkmpdobojgiegaaGreatDoor
open Go.RowKit

def itmV (x : Itm) : Value := .agg #[.int .i64 x.kind, .int .i64 x.at_, .string x.body]
set_option maxRecDepth 100000 in
theorem rcheck_any (w : World) (x : Itm) : Calls Tryz.prog 193 #[itmV x] w fun e w' => e = .returned (.int .i64 (checkI 1 2 5 x)) ∧ Keeps (fun _ => False) w w' := by
  obtain ⟨kind, at_, body⟩ := x
  unfold itmV checkI
  simp only
  have HK := Lib.hid (fun (o : Obj) => (Keeps.refl (fun _ => False) w).alloc o)
  obtain ⟨r, hr⟩ : ∃ r : Int, r = (if kind < 1 ∨ 15 < kind then 1 else if at_ < 0 ∨ 1099511627776 < at_ then 2 else if 4096 < body.size then 5 else 0 : Int) := ⟨_, rfl⟩
  rw [← hr]
  by_cases h1 : kind < 1
  · rw [if_pos (.inl h1)] at hr
    have HR := Lib.hid hr
    clear hr
    go_enter Tryz.func193, Tryz.ntmps193
    go_wp2_with fail
    go_ret
    exact ⟨by rw [HR.out]; rfl, HK.out _⟩
  by_cases h2 : 15 < kind
  · rw [if_pos (.inr h2)] at hr
    have HR := Lib.hid hr
    clear hr
    go_enter Tryz.func193, Tryz.ntmps193
    go_wp2_with fail
    go_ret
    exact ⟨by rw [HR.out]; rfl, HK.out _⟩
  rw [if_neg (by omega)] at hr
  by_cases h3 : at_ < 0 ∨ 1099511627776 < at_
  · rw [if_pos h3] at hr
    have HR := Lib.hid hr
    have HT := Lib.hid (fun W => isTick_any W at_ false (by
      symm
      rcases h3 with h | h
      · rw [decide_eq_false (by omega), Bool.false_and]
      · rw [decide_eq_false (by omega : ¬ at_ ≤ 1099511627776), Bool.and_false]))
    clear hr h3
    go_enter Tryz.func193, Tryz.ntmps193
    go_wp2_with fail
    refine (HT.out _).mono ?_
    rintro e w2 ⟨rfl, hw⟩
    have hk : Keeps (fun _ => False) w w2 := by rw [hw]; exact HK.out _
    have HK2 := Lib.hid hk
    clear hw hk
    go_wp2_with fail
    go_ret
    exact ⟨by rw [HR.out]; rfl, HK2.out⟩
  rw [if_neg h3] at hr
  have HT := Lib.hid (fun W => isTick_any W at_ true (by
    symm
    rw [decide_eq_true (by omega), decide_eq_true (by omega)]; rfl))
  have HB := Lib.hid (Blk.new w 136 #[.int .i64 kind, .int .i64 at_, .string body])
  clear h3
  by_cases h4 : 4096 < body.size
  · rw [if_pos h4] at hr
    have HR := Lib.hid hr
    clear hr
    go_enter Tryz.func193, Tryz.ntmps193
    go_wp2_with fail
    refine (HT.out _).mono ?_
    rintro e w2 ⟨rfl, hw⟩
    have hk : Keeps (fun _ => False) w w2 := by rw [hw]; exact HK.out _
    have hb : Blk w2 w.heap.size 136 #[.int .i64 kind, .int .i64 at_, .string body] := by rw [hw]; exact HB.out
    obtain ⟨c0, c1, c2⟩ := hb.cells3
    have HK2 := Lib.hid hk
    clear hw hk hb
    go_wp2_with fail
    go_ret
    exact ⟨by rw [HR.out]; rfl, HK2.out⟩
  · rw [if_neg h4] at hr
    have HR := Lib.hid hr
    clear hr
    go_enter Tryz.func193, Tryz.ntmps193
    go_wp2_with fail
    refine (HT.out _).mono ?_
    rintro e w2 ⟨rfl, hw⟩
    have hk : Keeps (fun _ => False) w w2 := by rw [hw]; exact HK.out _
    have hb : Blk w2 w.heap.size 136 #[.int .i64 kind, .int .i64 at_, .string body] := by rw [hw]; exact HB.out
    obtain ⟨c0, c1, c2⟩ := hb.cells3
    have HK2 := Lib.hid hk
    clear hw hk hb
    go_wp2_with fail
    go_ret
    exact ⟨by rw [HR.out]; rfl, HK2.out⟩
theorem check_ok {e1 e2 e3 : Int} {x : Itm} (h : x.ok) : checkI e1 e2 e3 x = 0 := by
  obtain ⟨⟨a, b⟩, ⟨c, d⟩, e⟩ := h
  unfold checkI
  rw [if_neg (by omega), if_neg (by omega), if_neg (by omega)]
theorem check_no {e1 e2 e3 : Int} (h1 : e1 ≠ 0) (h2 : e2 ≠ 0) (h3 : e3 ≠ 0) {x : Itm} (h : ¬ x.ok) : checkI e1 e2 e3 x ≠ 0 := by
  unfold checkI
  split
  · exact h1
  · split
    · exact h2
    · split
      · exact h3
      · exfalso
        exact h ⟨by omega, by omega, by omega⟩

theorem ownq_cap {w : World} {e : TypeId} {a : Option Addr} {n c : Nat} {vs : List Value} (h : OwnQ w e (.slice a n c) vs) : n ≤ c ∧ n = vs.length := by
  rcases h with ⟨h1, b, hv⟩ | ⟨g, off, cap, cur, hv, _, h1, _⟩
  · injection hv with e1 e2 e3
    subst h1
    exact ⟨by omega, by simpa using e2⟩
  · injection hv with e1 e2 e3
    exact ⟨by omega, e2⟩
theorem cut_str {w : World} {a : Option Addr} {m k0 t0 : Nat} {body : ByteArray} (h : OwnQ w 5 (.slice a m m) (u8Vs ([87, UInt8.ofNat k0] ++ beP 6 t0 ++ beP 2 body.size) ++ u8Vs body.data.toList)) :
    (convert 126 9 (.slice a m m)).run Tryz.prog w = .ok (.string (str (headP ⟨(k0 : Nat), (t0 : Nat), body⟩))) w := by
  rw [← u8Vs_app] at h
  have e : headP ⟨(k0 : Nat), (t0 : Nat), body⟩ = [87, UInt8.ofNat k0] ++ beP 6 t0 ++ beP 2 body.size ++ body.data.toList := by
    unfold headP
    simp
  rw [e]
  exact run_string_q w _ _ 5 _ _ Tryz.underlying126 Tryz.underlying5 Tryz.underlying9 h
set_option maxRecDepth 100000 in
set_option maxHeartbeats 1000000 in
theorem rput_ok (w : World) (x : Itm) (h : x.ok) : Calls Tryz.prog 133 #[itmV x] w fun e w' => e = .returned (.tuple #[.string (str (recP x)), .int .i64 0]) ∧ Keeps (fun _ => False) w w' := by
  have hc0 := check_ok (e1 := 1) (e2 := 2) (e3 := 5) h
  have HC := Lib.hid (fun W => rcheck_any W x)
  rw [hc0] at HC
  obtain ⟨⟨a, b⟩, ⟨c, d⟩, e⟩ := h
  have hx := Lib.hid (show headP x = headP x from rfl)
  obtain ⟨kind, at_, body⟩ := x
  simp only at a b c d e
  unfold itmV at *
  obtain ⟨k0, rfl⟩ := Int.eq_ofNat_of_zero_le (show 0 ≤ kind by omega)
  obtain ⟨t0, rfl⟩ := Int.eq_ofNat_of_zero_le c
  have HB := Lib.hid (Blk.new w 136 #[.int .i64 (k0 : Nat), .int .i64 (t0 : Nat), .string body])
  clear hc0 hx
  simp only at HC ⊢
  go_enter Tryz.func133, Tryz.ntmps133
  go_wp2_with fail
  refine (HC.out _).mono ?_
  rintro e w2 ⟨rfl, k2⟩
  have hb := HB.out.keeps k2 id
  have HB2 := Lib.hid hb
  have HK2 := Lib.hid (Keeps.trans (a := w) (S := fun _ => False) (by (repeat (first | (with_reducible assumption) | (with_reducible exact Keeps.refl _ _) | refine Keeps.drew ?_ | refine Keeps.drewN ?_ _ | refine Keeps.setCell ?_ (by simp) _ | refine Keeps.setRow ?_ (by simp) _ | refine Keeps.alloc ?_ _))) k2)
  obtain ⟨c0, c1, c2⟩ := hb.cells3
  clear k2 hb
  have ho3 := (HB2.out.alloc (.cells #[.int .u8 87, .int .u8 (k0 : Nat)] 5))
  obtain ⟨d0, d1, d2⟩ := ho3.cells3
  have hkb : (((UInt8.ofNat k0).toNat : Nat) : Int) = (k0 : Int) := by rw [UInt8.toNat_ofNat_of_lt' (by show k0 < 256; omega)]
  have hq3 : OwnQ (w2.alloc (.cells #[.int .u8 87, .int .u8 (k0 : Nat)] 5)) 5 (.slice (some ⟨w2.heap.size, 0, none⟩) 2 2) (u8Vs [87, UInt8.ofNat k0]) := by
    refine .inr ⟨w2.heap.size, 0, 2, _, rfl, Blk.new _ _ _, by simp [u8Vs], by simp, by unfold maxLen; omega, fun j u hj => ?_⟩
    unfold u8Vs at hj
    simp only [List.map_cons, List.map_nil, hkb] at hj
    rw [Nat.zero_add]
    simpa using hj
  have HQ3 := Lib.hid hq3
  have HO3 := Lib.hid ho3
  have hlt2 := HB2.out.lt
  clear hkb hq3 ho3
  go_wp2_with fail
  refine (sumnumber_any _ (.slice (some ⟨w2.heap.size, 0, none⟩) 2 2) [87, UInt8.ofNat k0] t0 6 HQ3.out (by omega) (by simp)).mono ?_
  rintro e w4 ⟨v4, rfl, hq4, hr4, k4⟩
  have hb4 : Blk w4 w.heap.size 136 #[.int .i64 (k0 : Nat), .int .i64 (t0 : Nat), .string body] := HO3.out.keeps k4 (fun e => by simp [rowB] at e; omega)
  have HQ4 := Lib.hid hq4
  have HB4 := Lib.hid hb4
  have hr4' : ∃ r, rowB v4 = some r ∧ w2.heap.size ≤ r := by
    rcases hr4 with h | ⟨r, h1, h2⟩
    · exact ⟨w2.heap.size, h.trans rfl, Nat.le_refl _⟩
    · exact ⟨r, h1, by simp at h2; omega⟩
  have HR4 := Lib.hid hr4'
  have HK4 := Lib.hid ((HK2.out.alloc (.cells #[.int .u8 87, .int .u8 (k0 : Nat)] 5)).and_ k4 (fun i hi e => by have := HK2.out.size; simp [rowB] at e; omega))
  clear c0 c1 c2 d0 d1 d2 hq4 hr4 hr4' k4
  obtain ⟨c0, c1, c2⟩ := hb4.cells3
  clear hb4
  go_wp2_with fail
  refine (sumnumber_any _ v4 ([87, UInt8.ofNat k0] ++ beP 6 t0) body.size 2 HQ4.out (by omega) (by rw [List.length_append, beP_len]; simp)).mono ?_
  rintro e w5 ⟨v5, rfl, hq5, hr5, k5⟩
  obtain ⟨r4, hr41, hr42⟩ := HR4.out
  have hb5 : Blk w5 w.heap.size 136 #[.int .i64 (k0 : Nat), .int .i64 (t0 : Nat), .string body] := HB4.out.keeps k5 (fun e => by rw [hr41] at e; injection e with e; omega)
  have HQ5 := Lib.hid hq5
  have hw4 := HK4.out.size
  have hr5' : ∃ r, rowB v5 = some r ∧ w.heap.size ≤ r := by
    rcases hr5 with h | ⟨r, h1, h2⟩
    · exact ⟨r4, h.trans hr41, by omega⟩
    · exact ⟨r, h1, by omega⟩
  have HR5 := Lib.hid hr5'
  have HK5 := Lib.hid (HK4.out.and_ k5 (fun i hi e => by rw [hr41] at e; injection e with e; omega))
  clear c0 c1 c2 hq5 hr5 hr5' k5 hr41 hr42
  obtain ⟨c0, c1, c2⟩ := hb5.cells3
  obtain ⟨a5, q5, hv5⟩ := HQ5.out.sl
  have hl5 : (u8Vs ([87, UInt8.ofNat k0] ++ beP 6 t0 ++ beP 2 body.size)).length = 10 := by rw [u8Vs_len, List.length_append, List.length_append, beP_len, beP_len]; rfl
  rw [hl5] at hv5
  subst hv5
  have HL5 := Lib.hid hl5
  clear hb5 hl5
  go_wp2_with ((with_reducible show wpList _ _ _ (⟨some 28, _, _, _, _, _⟩ :: _) _ _); go_must (refine wpList_append_qs rfl (.tmp 25) (.tmp 27) 126 9 rfl 5 Tryz.underlying126 Tryz.underlying9 (by kernel_rfl) (.slice a5 10 q5) (u8Vs ([87, UInt8.ofNat k0] ++ beP 6 t0 ++ beP 2 body.size)) rfl HQ5.out body rfl (by rw [HL5.out]; omega) ?_; intro v6 w6 ha; obtain ⟨hq6, hk6, hr6⟩ := ha; obtain ⟨a6, m6, q6, hv6⟩ := hq6.sl3; subst hv6; obtain ⟨hcap, hm6⟩ := ownq_cap hq6; have hcut := (hq6.cut (n := m6) (Nat.le_of_eq hm6)).1; rw [hm6, List.take_length, ← hm6] at hcut; have HCUT := Lib.hid hcut; have HM6 := Lib.hid hm6; have HK6 := Lib.hid hk6; clear hq6 hk6 hr6 hm6 hcut; have hcv := cut_str HCUT.out; obtain ⟨sx, hsx⟩ : ∃ sx, sx = str (headP ⟨(k0 : Nat), (t0 : Nat), body⟩) := ⟨_, rfl⟩; rw [← hsx] at hcv; have HSX := Lib.hid hsx; have hsz : sx.size = 10 + body.size := (by rw [hsx, str_size, headP_len]); have hsl : sx.size ≤ 4106 := (by omega); have HSZ := Lib.hid hsz; clear hsx hsz))
  refine (sof_any _ sx (by omega)).mono ?_
  have hsm := sumP_lt sx.data.toList
  obtain ⟨sm, hsm2⟩ : ∃ sm, sm = sumP sx.data.toList := ⟨_, rfl⟩
  rw [← hsm2] at hsm ⊢
  rintro e w7 ⟨rfl, hw⟩
  obtain rfl : w6 = w7 := hw.symm
  have hs4 : (str (beP 4 sm)).size = 4 := by rw [str_size, beP_len]
  have HSP := Lib.hid (sput_any w6 sm (by omega))
  have HSM := Lib.hid hsm2
  obtain ⟨s4, hs4e⟩ : ∃ s4, s4 = str (beP 4 sm) := ⟨_, rfl⟩
  rw [← hs4e] at hs4 HSP
  have hs4l : s4.size ≤ 4 := by omega
  have HS4 := Lib.hid hs4e
  clear hs4 hs4e hsm hsm2
  go_wp2_with fail
  refine HSP.out.mono ?_
  rintro e w8 ⟨rfl, k8⟩
  have HK8 := Lib.hid k8
  clear k8
  go_wp2_with fail
  go_ret2
  obtain ⟨r5, hr51, hr52⟩ := HR5.out
  refine ⟨?_, (HK5.out.and_ HK6.out (fun i hi e => by rw [hr51] at e; injection e with e; omega)).trans HK8.out⟩
  rw [HS4.out, HSM.out, HSX.out]
  rfl
end Go.Proofs.YtkmpdobojgiegaaGreatDoor

/-
  The document's sums and numbers (wheelhouseref07, wheelhouseref08).
-/
namespace Go.Proofs.YtkmpdobojgiegaaGreatDoor
open Go.RowKit

theorem unbe_take {s : ByteArray} {i : Nat} (h : i < s.size) : unbe (s.data.toList.take (i + 1)) = unbe (s.data.toList.take i) * 256 + (s[i]'h).toNat := by
  rw [List.take_succ_eq_append_getElem (by simpa using h), unbe_snoc]; rfl
set_option maxRecDepth 100000 in
theorem rof_any (w : World) (s : ByteArray) (hs : s.size ≤ 4611686018427387904) : Calls Tryz.prog 245 #[.string s] w fun e w' => e = .returned (.int .i64 (sumP s.data.toList : Nat)) ∧ w' = w := by
  go_enter Tryz.func245, Tryz.ntmps245
  go_wp2_with fail
  go_loopw [3, 4] (fun u3 u4 wr => w = wr ∧ ∃ i h : Nat, u4 = .int .i64 i ∧ u3 = .int .i64 h ∧ i ≤ s.size ∧ Hid (h = sumP (s.data.toList.take i))) (fun _ u4 _ => s.size - (intOf u4).toNat)
  case atStart => exact ⟨rfl, 0, 0, rfl, rfl, Nat.zero_le _, Lib.hid rfl⟩
  case round =>
    obtain ⟨rfl, i, h, rfl, rfl, hi, HH⟩ := hrel
    by_cases hlt : i < s.size
    · have hst := sum_take hlt
      rw [← HH.out] at hst
      have hb : h ≤ 2147483646 := by rw [HH.out]; have := sumP_lt (s.data.toList.take i); omega
      have hc : (s[i]'hlt).toNat ≤ 255 := by have := (s[i]'hlt).toNat_lt; omega
      obtain ⟨o, ho⟩ : ∃ o, o = onP h (s[i]'hlt) := ⟨_, rfl⟩
      have ho2 : (o : Int) = (257 * (h : Int) + ((s[i]'hlt).toNat : Int) + 1) % 2147483647 := by rw [ho]; unfold onP; omega
      rw [← ho] at hst
      have HST := Lib.hid hst
      have HO := Lib.hid ho2
      clear hst ho ho2
      go_wp2_with fail
      go_roundw
      case rel => exact ⟨trivial, i + 1, o, by go_num, by rw [HO.out], by omega, Lib.hid HST.out.symm⟩
      case measure => simp [intOf]; omega
    · have hh : h = sumP s.data.toList := by rw [HH.out, List.take_of_length_le (by simp; omega)]
      have HX := Lib.hid hh
      clear hh
      go_wp2_with fail
      go_ret
      exact ⟨by rw [← HX.out]; rfl, rfl⟩
set_option maxRecDepth 100000 in
theorem rnumber_any (w : World) (s : ByteArray) (hs : s.size ≤ 6) : Calls Tryz.prog 202 #[.string s] w fun e w' => e = .returned (.int .i64 (unbe s.data.toList : Nat)) ∧ w' = w := by
  go_enter Tryz.func202, Tryz.ntmps202
  go_wp2_with fail
  go_loopw [3, 4] (fun u3 u4 wr => w = wr ∧ ∃ i h : Nat, u4 = .int .i64 i ∧ u3 = .int .i64 h ∧ i ≤ s.size ∧ h ≤ 281474976710655 ∧ Hid (h = unbe (s.data.toList.take i))) (fun _ u4 _ => s.size - (intOf u4).toNat)
  case atStart => exact ⟨rfl, 0, 0, rfl, rfl, Nat.zero_le _, by omega, Lib.hid rfl⟩
  case round =>
    obtain ⟨rfl, i, h, rfl, rfl, hi, hb, HH⟩ := hrel
    by_cases hlt : i < s.size
    · have hst := unbe_take hlt
      rw [← HH.out] at hst
      have hc : (s[i]'hlt).toNat ≤ 255 := by have := (s[i]'hlt).toNat_lt; omega
      have hb2 : unbe (s.data.toList.take (i + 1)) ≤ 281474976710655 := by
        have h1 := unbe_lt (s.data.toList.take (i + 1))
        have h2 : (s.data.toList.take (i + 1)).length ≤ 6 := by rw [List.length_take]; omega
        have h3 : 256 ^ (s.data.toList.take (i + 1)).length ≤ 256 ^ 6 := Nat.pow_le_pow_right (by omega) h2
        have h4 : (256 : Nat) ^ 6 = 281474976710656 := by decide
        omega
      rw [hst] at hb2
      have HST := Lib.hid hst
      clear hst
      go_wp2_with fail
      go_roundw
      case rel => exact ⟨trivial, i + 1, h * 256 + (s[i]'hlt).toNat, by go_num, by first | go_num | (congr 1; omega), by omega, hb2, Lib.hid HST.out.symm⟩
      case measure => simp [intOf]; omega
    · have hh : h = unbe s.data.toList := by rw [HH.out, List.take_of_length_le (by simp; omega)]
      have HX := Lib.hid hh
      clear hh
      go_wp2_with fail
      go_ret
      exact ⟨by rw [← HX.out]; rfl, rfl⟩
end Go.Proofs.YtkmpdobojgiegaaGreatDoor

/-
  The document's sum as bytes, and which items may be (wheelhouseref07, wheelhouseref08).
-/
namespace Go.Proofs.YtkmpdobojgiegaaGreatDoor
open Go.RowKit

theorem be4_cells {n : Nat} (hn : n ≤ 2147483646) : ∀ (j : Nat) (v : UInt8), (beP 4 n)[j]? = some v → (#[Value.int .u8 ((n : Int) / 16777216), .int .u8 ((n : Int) / 65536 % 256), .int .u8 ((n : Int) / 256 % 256), .int .u8 ((n : Int) % 256)])[j]? = some (.int .u8 (v.toNat : Int)) := by
  have e : beP 4 n = [UInt8.ofNat (n / 16777216 % 256), UInt8.ofNat (n / 65536 % 256), UInt8.ofNat (n / 256 % 256), UInt8.ofNat (n % 256)] := by
    rw [beP_cons, beP_cons, beP_cons, beP_cons]
    simp [beP]
  intro j v hj
  rw [e] at hj
  match j, hj with
  | 0, hj => simp at hj; subst hj; simp; omega
  | 1, hj => simp at hj; subst hj; simp
  | 2, hj => simp at hj; subst hj; simp
  | 3, hj => simp at hj; subst hj; simp
  | j + 4, hj => simp at hj
set_option maxRecDepth 100000 in
theorem rsput_any (w : World) (n : Nat) (hn : n ≤ 2147483646) : Calls Tryz.prog 244 #[.int .i64 n] w fun e w' => e = .returned (.string (str (beP 4 n))) ∧ Keeps (fun _ => False) w w' := by
  have t1 : decide ((2147483647 : Int) ≤ (n : Int)) = false := by rw [decide_eq_false_iff_not]; omega
  go_enter Tryz.func244, Tryz.ntmps244
  go_wp2_with ((with_reducible show wpList _ _ _ (⟨some 24, _, _, _, _, _⟩ :: _) _ _); go_must (refine wpList_string_bytes _ rfl _ _ _ rfl 5 Tryz.underlying126 Tryz.underlying5 Tryz.underlying9 w.heap.size 0 4 4 rfl (beP 4 n) (beP_len _ _) (fun j v hj => by rw [Nat.zero_add, (Blk.new w 5 _).cell j]; exact be4_cells hn j v hj) ?_))
  go_ret
  exact ⟨rfl, (Keeps.refl _ _).alloc _⟩
set_option maxRecDepth 100000 in
theorem r8check_any (w : World) (x : Itm) : Calls Tryz.prog 203 #[itmV x] w fun e w' => e = .returned (.int .i64 (checkI 1 2 5 x)) ∧ Keeps (fun _ => False) w w' := by
  obtain ⟨kind, at_, body⟩ := x
  unfold itmV checkI
  simp only
  have HK := Lib.hid (fun (o : Obj) => (Keeps.refl (fun _ => False) w).alloc o)
  obtain ⟨r, hr⟩ : ∃ r : Int, r = (if kind < 1 ∨ 15 < kind then 1 else if at_ < 0 ∨ 1099511627776 < at_ then 2 else if 4096 < body.size then 5 else 0 : Int) := ⟨_, rfl⟩
  rw [← hr]
  by_cases h1 : kind < 1
  · rw [if_pos (.inl h1)] at hr
    have HR := Lib.hid hr
    clear hr
    go_enter Tryz.func203, Tryz.ntmps203
    go_wp2_with fail
    go_ret
    exact ⟨by rw [HR.out]; rfl, HK.out _⟩
  by_cases h2 : 15 < kind
  · rw [if_pos (.inr h2)] at hr
    have HR := Lib.hid hr
    clear hr
    go_enter Tryz.func203, Tryz.ntmps203
    go_wp2_with fail
    go_ret
    exact ⟨by rw [HR.out]; rfl, HK.out _⟩
  rw [if_neg (by omega)] at hr
  by_cases h3 : at_ < 0
  · rw [if_pos (.inl h3)] at hr
    have HR := Lib.hid hr
    clear hr
    go_enter Tryz.func203, Tryz.ntmps203
    go_wp2_with fail
    go_ret
    exact ⟨by rw [HR.out]; rfl, HK.out _⟩
  by_cases h4 : 1099511627776 < at_
  · rw [if_pos (.inr h4)] at hr
    have HR := Lib.hid hr
    clear hr
    go_enter Tryz.func203, Tryz.ntmps203
    go_wp2_with fail
    go_ret
    exact ⟨by rw [HR.out]; rfl, HK.out _⟩
  rw [if_neg (by omega)] at hr
  by_cases h5 : 4096 < body.size
  · rw [if_pos h5] at hr
    have HR := Lib.hid hr
    clear hr
    go_enter Tryz.func203, Tryz.ntmps203
    go_wp2_with fail
    go_ret
    exact ⟨by rw [HR.out]; rfl, HK.out _⟩
  · rw [if_neg h5] at hr
    have HR := Lib.hid hr
    clear hr
    go_enter Tryz.func203, Tryz.ntmps203
    go_wp2_with fail
    go_ret
    exact ⟨by rw [HR.out]; rfl, HK.out _⟩
end Go.Proofs.YtkmpdobojgiegaaGreatDoor

/-
  The document's record of an item (wheelhouseref08.Put).
-/
namespace Go.Proofs.YtkmpdobojgiegaaGreatDoor
open Go.RowKit

theorem str_cat2 (a b : List UInt8) : str a ++ str b = str (a ++ b) := by apply ba_ext; simp [str]
theorem div_pow (n i : Nat) : ((n / 256 ^ i : Nat) : Int) / 256 = ((n / 256 ^ (i + 1) : Nat) : Int) := by rw [Nat.pow_succ, ← Nat.div_div_eq_div_mul]; omega
theorem cell_one {w : World} {x : Int} {c : UInt8} (h : (c.toNat : Int) = x) : ∀ (j : Nat) (v : UInt8), ([c] : List UInt8)[j]? = some v → (w.alloc (.cells #[.int .u8 x] 5)).cell? ⟨w.heap.size, 0 + j, none⟩ = some (.int .u8 (v.toNat : Int)) := by
  intro j v hj
  rw [Nat.zero_add, (Blk.new w 5 _).cell j]
  match j, hj with
  | 0, hj => simp at hj; subst hj; simp [h]
  | j + 1, hj => simp at hj
theorem cell_two {w : World} {o : Obj} {n : Nat} (hn : n ≤ 4096) : ∀ (j : Nat) (v : UInt8), (beP 2 n)[j]? = some v → ((w.alloc o).alloc (.cells #[.int .u8 ((n : Int) / 256), .int .u8 ((n : Int) % 256)] 5)).cell? ⟨w.heap.size + 1, 0 + j, none⟩ = some (.int .u8 (v.toNat : Int)) := by
  have e : beP 2 n = [UInt8.ofNat (n / 256 % 256), UInt8.ofNat (n % 256)] := by
    rw [beP_cons, beP_cons]
    simp [beP]
  intro j v hj
  have hb := Blk.new (w.alloc o) 5 #[.int .u8 ((n : Int) / 256), .int .u8 ((n : Int) % 256)]
  rw [show (w.alloc o).heap.size = w.heap.size + 1 by simp] at hb
  rw [Nat.zero_add, hb.cell j]
  rw [e] at hj
  match j, hj with
  | 0, hj => simp at hj; subst hj; simp; omega
  | 1, hj => simp at hj; subst hj; simp
  | j + 2, hj => simp at hj
theorem head_str {k0 t0 : Nat} {body s6 : ByteArray} {kb : UInt8} (h1 : kb = UInt8.ofNat k0) (h2 : s6 = str (beP 6 t0)) : (⟨#[87]⟩ : ByteArray) ++ str [kb] ++ s6 ++ str (beP 2 body.size) ++ body = str (headP ⟨(k0 : Nat), (t0 : Nat), body⟩) := by
  apply ba_ext
  rw [h1, h2]
  unfold headP
  simp [str]
set_option maxRecDepth 100000 in
set_option maxHeartbeats 1000000 in
theorem r8put_ok (w : World) (x : Itm) (h : x.ok) : Calls Tryz.prog 204 #[itmV x] w fun e w' => e = .returned (.tuple #[.string (str (recP x)), .int .i64 0]) ∧ Keeps (fun _ => False) w w' := by
  have hc0 := check_ok (e1 := 1) (e2 := 2) (e3 := 5) h
  have HC := Lib.hid (fun W => r8check_any W x)
  rw [hc0] at HC
  obtain ⟨⟨a, b⟩, ⟨c, d⟩, e⟩ := h
  obtain ⟨kind, at_, body⟩ := x
  simp only at a b c d e
  unfold itmV at *
  obtain ⟨k0, rfl⟩ := Int.eq_ofNat_of_zero_le (show 0 ≤ kind by omega)
  obtain ⟨t0, rfl⟩ := Int.eq_ofNat_of_zero_le c
  have HB := Lib.hid (Blk.new w 136 #[.int .i64 (k0 : Nat), .int .i64 (t0 : Nat), .string body])
  clear hc0
  simp only at HC ⊢
  go_enter Tryz.func204, Tryz.ntmps204
  go_wp2_with fail
  refine (HC.out _).mono ?_
  rintro e w2 ⟨rfl, k2⟩
  have hb := HB.out.keeps k2 id
  have HB2 := Lib.hid hb
  have HK2 := Lib.hid (Keeps.trans (a := w) (S := fun _ => False) (by (repeat (first | (with_reducible assumption) | (with_reducible exact Keeps.refl _ _) | refine Keeps.drew ?_ | refine Keeps.drewN ?_ _ | refine Keeps.setCell ?_ (by simp) _ | refine Keeps.setRow ?_ (by simp) _ | refine Keeps.alloc ?_ _))) k2)
  obtain ⟨c0, c1, c2⟩ := hb.cells3
  clear k2 hb
  go_wp2_with fail
  go_loopw [5, 6, 7] (fun u5 u6 u7 wr => ∃ i : Nat, u7 = .int .i64 i ∧ i ≤ 6 ∧ u6 = .int .i64 ((t0 / 256 ^ i : Nat) : Int) ∧ u5 = .string (str (beP i t0)) ∧ Hid (Keeps (fun _ => False) w2 wr)) (fun _ _ u7 _ => 6 - (intOf u7).toNat)
  case atStart => exact ⟨0, rfl, by omega, by simp, rfl, Lib.hid (Keeps.refl _ _)⟩
  case round =>
    obtain ⟨i, rfl, hi, rfl, rfl, HI⟩ := hrel
    rename World => wr
    by_cases hlt : i < 6
    · have hcons := beP_cons i t0
      have hdiv := div_pow t0 i
      obtain ⟨q, hq⟩ : ∃ q, q = t0 / 256 ^ i := ⟨_, rfl⟩
      have hqb : q ≤ t0 := by rw [hq]; exact Nat.div_le_self _ _
      obtain ⟨cb, hcb⟩ : ∃ cb, cb = UInt8.ofNat (t0 / 256 ^ i % 256) := ⟨_, rfl⟩
      have hcv : (cb.toNat : Int) = (q : Int) % 256 := by rw [hcb, byte_mod, ← hq]; omega
      rw [← hcb] at hcons
      rw [← hq] at hdiv ⊢
      have hs1 : (str [cb]).size = 1 := rfl
      have hs2 : (str (beP i t0)).size ≤ 6 := by rw [str_size, beP_len]; omega
      have HCO := Lib.hid hcons
      have HDI := Lib.hid hdiv
      have HCV := Lib.hid hcv
      clear hcons hdiv hq hcb hcv
      go_wp2_with ((with_reducible show wpList _ _ _ (⟨some 23, _, _, _, _, _⟩ :: _) _ _); go_must (refine wpList_string_bytes _ rfl _ _ _ rfl 5 Tryz.underlying126 Tryz.underlying5 Tryz.underlying9 wr.heap.size 0 1 1 rfl [cb] rfl (cell_one HCV.out) ?_))
      go_roundw
      case rel => exact ⟨i + 1, by go_num, by omega, by rw [HDI.out], by rw [HCO.out, str_cat2]; rfl, Lib.hid (HI.out.alloc _)⟩
      case measure => simp [intOf]; omega
    · obtain rfl : i = 6 := by omega
      obtain ⟨c0', c1', c2'⟩ := (HB2.out.keeps HI.out id).cells3
      have hb1 := (HB2.out.keeps HI.out id).alloc (.cells #[.int .u8 (k0 : Nat)] 5)
      obtain ⟨d0, d1, d2⟩ := hb1.cells3
      obtain ⟨f0, f1, f2⟩ := (hb1.alloc (.cells #[.int .u8 ((body.size : Int) / 256), .int .u8 ((body.size : Int) % 256)] 5)).cells3
      have hkb : (((UInt8.ofNat k0).toNat : Nat) : Int) = (k0 : Int) := by rw [UInt8.toNat_ofNat_of_lt' (by show k0 < 256; omega)]
      obtain ⟨kb, hkb2⟩ : ∃ kb, kb = UInt8.ofNat k0 := ⟨_, rfl⟩
      rw [← hkb2] at hkb
      have HKB := Lib.hid hkb
      have HKB2 := Lib.hid hkb2
      obtain ⟨s6, hs6⟩ : ∃ s6, s6 = str (beP 6 t0) := ⟨_, rfl⟩
      have hs6l : s6.size ≤ 6 := by rw [hs6, str_size, beP_len]; omega
      rw [← hs6]
      have HS6 := Lib.hid hs6
      have hs1 : (str [kb]).size = 1 := rfl
      have hs2 : (str (beP 2 body.size)).size ≤ 2 := by rw [str_size, beP_len]; omega
      have hlt := hb1.lt
      clear hkb hkb2 hs6 hb1 c0 c1 c2
      go_wp2_with (first
        | ((with_reducible show wpList _ _ _ (⟨some 32, _, _, _, _, _⟩ :: _) _ _); go_must (refine wpList_string_bytes _ rfl _ _ _ rfl 5 Tryz.underlying126 Tryz.underlying5 Tryz.underlying9 wr.heap.size 0 1 1 rfl [kb] rfl (cell_one HKB.out) ?_))
        | ((with_reducible show wpList _ _ _ (⟨some 47, _, _, _, _, _⟩ :: _) _ _); go_must (refine wpList_string_bytes _ rfl _ _ _ rfl 5 Tryz.underlying126 Tryz.underlying5 Tryz.underlying9 (wr.heap.size + 1) 0 2 2 rfl (beP 2 body.size) (beP_len _ _) (cell_two e) ?_)))
      have hhd := head_str HKB2.out HS6.out (body := body)
      obtain ⟨sx, hsx⟩ : ∃ sx, sx = str (headP ⟨(k0 : Nat), (t0 : Nat), body⟩) := ⟨_, rfl⟩
      rw [← hsx] at hhd
      rw [hhd]
      have hsz : sx.size = 10 + body.size := by rw [hsx, str_size, headP_len]
      have hsl : sx.size ≤ 4106 := by omega
      have HSX := Lib.hid hsx
      clear hsx hsz hhd c0' c1' c2' d0 d1 d2 f0 f1 f2
      refine (rof_any _ sx (by omega)).mono ?_
      have hsm := sumP_lt sx.data.toList
      obtain ⟨sm, hsm2⟩ : ∃ sm, sm = sumP sx.data.toList := ⟨_, rfl⟩
      rw [← hsm2] at hsm ⊢
      rintro e w7 ⟨rfl, hw⟩
      have hk7 : Keeps (fun _ => False) w w7 := by rw [hw]; exact ((HK2.out.trans HI.out).alloc _).alloc _
      have HK7 := Lib.hid hk7
      have hs4 : (str (beP 4 sm)).size = 4 := by rw [str_size, beP_len]
      have HSP := Lib.hid (rsput_any w7 sm (by omega))
      have HSM := Lib.hid hsm2
      obtain ⟨s4, hs4e⟩ : ∃ s4, s4 = str (beP 4 sm) := ⟨_, rfl⟩
      rw [← hs4e] at hs4 HSP
      have hs4l : s4.size ≤ 4 := by omega
      have HS4 := Lib.hid hs4e
      clear hs4 hs4e hsm hsm2 hw hk7
      go_wp2_with fail
      refine HSP.out.mono ?_
      rintro e w8 ⟨rfl, k8⟩
      have HK8 := Lib.hid (HK7.out.trans k8)
      clear k8
      go_wp2_with fail
      go_ret2
      refine ⟨?_, HK8.out⟩
      rw [HS4.out, HSM.out, HSX.out, str_cat2]
      rfl
end Go.Proofs.YtkmpdobojgiegaaGreatDoor

/-
  The document's item out of bytes (wheelhouseref08.Read).
-/
namespace Go.Proofs.YtkmpdobojgiegaaGreatDoor
open Go.RowKit

theorem ret_ctt {P : Program} {fn : Func} {p u x : Tmp} {ty : TypeId} (h : fn.results = #[.cell p ty, .tmp u, .tmp x]) {a : Act} {w : World} {R : Ending → World → Prop} (g : Nat) (t : TypeId) (cs : Array Value) (d : TypeDesc)
    (hp : a.tmps.getD p undef = .pointer (some ⟨g, 0, none⟩)) (hb : Blk w g t cs) (hu : P.underlying ty = some d) (hd : (match d with | .struct _ | .array _ _ => true | _ => false) = true)
    (hi : (P.info? ty).map (·.size) = some cs.size) (hdf : a.defers = []) (hR : R (.returned (.tuple #[.agg cs, a.tmps.getD u undef, a.tmps.getD x undef])) w) : bodyPost P fn R .ret a w := by
  refine bodyPost_ret (v := .tuple #[.agg cs, a.tmps.getD u undef, a.tmps.getD x undef]) ?_ hdf hR
  have hp' : a.tmps[p]?.getD undef = .pointer (some ⟨g, 0, none⟩) := by simpa using hp
  simp only [results, h]
  simp [Result.andThen, hp', asAddr, run_loadVar_row w g t ty cs (0, 0) d hb hu hd hi]
theorem Keeps.setNewC {S : Nat → Prop} {a b : World} (h : Keeps S a b) {g i : Nat} (hg : a.heap.size ≤ g) (u : Value) : Keeps S a (b.setCell ⟨g, i, none⟩ u) := h.setCell (fun hh => by have : g < a.heap.size := hh; omega) u
theorem Keeps.setC3 {S : Nat → Prop} {a b : World} (h : Keeps S a b) {g : Nat} (hg : a.heap.size ≤ g) (x y z : Value) : Keeps S a (((b.setCell ⟨g, 0, none⟩ x).setCell ⟨g, 1, none⟩ y).setCell ⟨g, 2, none⟩ z) := ((h.setNewC hg _).setNewC hg _).setNewC hg _
theorem Blk.setC3 {w : World} {g : Nat} {t : TypeId} {a b c : Value} (h : Blk w g t #[a, b, c]) (x y z : Value) : Blk (((w.setCell ⟨g, 0, none⟩ x).setCell ⟨g, 1, none⟩ y).setCell ⟨g, 2, none⟩ z) g t #[x, y, z] := ((h.set_ 0 x).set_ 1 y).set_ 2 z
theorem Keeps.of_eq {S : Nat → Prop} {a b : World} (h : b = a) : Keeps S a b := by rw [h]; exact Keeps.refl _ _
theorem ext_part (s : ByteArray) (a b : Nat) : s.extract a b = str ((s.data.toList.drop a).take (b - a)) := by
  apply ba_ext
  simp only [ByteArray.data_extract, Array.toList_extract, List.extract_eq_take_drop, str_list]
/-- ahead of the sum all is as it may be, and the bytes are those of the item: it is whole -/
theorem whole_mk {l : List UInt8} (hk : 1 ≤ (l.getD 1 0).toNat ∧ (l.getD 1 0).toNat ≤ 15) (ha : unbe ((l.drop 2).take 6) ≤ 1099511627776) (hn : gotK l ≤ 4096) (ht : l.take (14 + gotK l) = recP (gotI l)) : Whole l := by
  have hok : (gotI l).ok := by
    refine ⟨?_, ?_, ?_⟩
    · unfold gotI; simp only; omega
    · unfold gotI; simp only; omega
    · unfold gotI; simp only [str_size, List.length_take, List.length_drop]; omega
  have h := (rec_whole hok (l.drop (14 + gotK l))).1
  rwa [← ht, List.take_append_drop] at h
/-- what Read tells of bytes that begin with no whole item -/
def noItem (e : Ending) : Prop := ∃ c, c ≠ 0 ∧ e = .returned (.tuple #[.agg #[.int .i64 0, .int .i64 0, .string ⟨#[]⟩], .int .i64 0, .int .i64 c])
def readEnd (l : List UInt8) (e : Ending) : Prop := (Whole l ∧ e = .returned (.tuple #[itmV (gotI l), .int .i64 (14 + gotK l : Nat), .int .i64 0])) ∨ (¬ Whole l ∧ noItem e)
set_option maxRecDepth 100000 in
set_option maxHeartbeats 1000000 in
theorem r8read_any (w : World) (s : ByteArray) (hs : s.size ≤ 1073741824) : Calls Tryz.prog 138 #[.string s] w fun e w' => readEnd s.data.toList e ∧ Keeps (fun _ => False) w w' := by
  have hlen : s.data.toList.length = s.size := by simp
  obtain ⟨l, hl⟩ : ∃ l, l = s.data.toList := ⟨_, rfl⟩
  rw [← hl] at hlen ⊢
  obtain ⟨E, hE⟩ : ∃ E, E = readEnd l := ⟨_, rfl⟩
  rw [← hE]
  have HE := Lib.hid hE
  have HL := Lib.hid hl
  have HN := Lib.hid hlen
  have hno : ∀ c, c ≠ 0 → ¬ Whole l → E (.returned (.tuple #[.agg #[.int .i64 0, .int .i64 0, .string ⟨#[]⟩], .int .i64 0, .int .i64 c])) := fun c hc h => by rw [HE.out]; exact .inr ⟨h, c, hc, rfl⟩
  have HNO := Lib.hid hno
  clear hE hl hlen hno
  by_cases h0 : s.size = 0
  · obtain rfl : s = ⟨#[]⟩ := by apply ba_ext; exact List.eq_nil_of_length_eq_zero (by simpa using h0)
    have hw : ¬ Whole l := fun h => by have := h.all; have := HN.out; omega
    have HW := Lib.hid hw
    clear hw h0
    go_enter Tryz.func138, Tryz.ntmps138
    go_wp2_with fail
    try simp only [Exit.inBlock, Exit.then]
    refine ret_ctt rfl w.heap.size 136 _ _ rfl (Blk.new w _ _) Tryz.underlying136 rfl (by kernel_rfl) rfl ⟨?_, by (repeat (first | (with_reducible assumption) | (with_reducible exact Keeps.refl _ _) | refine Keeps.drew ?_ | refine Keeps.drewN ?_ _ | refine Keeps.setCell ?_ (by simp) _ | refine Keeps.setRow ?_ (by simp) _ | refine Keeps.alloc ?_ _))⟩
    exact HNO.out 13 (by decide) HW.out
  · have hget : ∀ (k : Nat) c, l[k]? = some c → ∀ h, s[k]'h = c := by
      intro k c hc h
      rw [HL.out] at hc
      rw [← (List.getElem?_eq_some_iff.1 hc).2]; rfl
    obtain ⟨c, hc⟩ : ∃ c, l[0]? = some c := ⟨_, List.getElem?_eq_getElem (by rw [HN.out]; omega)⟩
    have hsc := hget 0 c hc
    have HC := Lib.hid hc
    have HG := Lib.hid hget
    have hsne : s.toList.isEmpty = false := by
      rw [ByteArray.toList_eq, ← HL.out]
      cases hq : l with
      | nil => rw [hq] at HN; exact absurd HN.out.symm h0
      | cons a t => rfl
    clear hc hget
    by_cases h87 : c = 87
    · subst h87
      by_cases h10 : s.size < 10
      · have hw : ¬ Whole l := fun h => by have := h.all; have := HN.out; omega
        have HW := Lib.hid hw
        clear hw
        go_enter Tryz.func138, Tryz.ntmps138
        go_wp2_with fail
        try simp only [Exit.inBlock, Exit.then]
        refine ret_ctt rfl w.heap.size 136 _ _ rfl (Blk.new w _ _) Tryz.underlying136 rfl (by kernel_rfl) rfl ⟨?_, by (repeat (first | (with_reducible assumption) | (with_reducible exact Keeps.refl _ _) | refine Keeps.drew ?_ | refine Keeps.drewN ?_ _ | refine Keeps.setCell ?_ (by simp) _ | refine Keeps.setRow ?_ (by simp) _ | refine Keeps.alloc ?_ _))⟩
        exact HNO.out 13 (by decide) HW.out
      · obtain ⟨d, hd⟩ : ∃ d, l[1]? = some d := ⟨_, List.getElem?_eq_getElem (by rw [HN.out]; omega)⟩
        have hsd := HG.out 1 d hd
        have hdd : l.getD 1 0 = d := by rw [List.getD_eq_getElem?_getD, hd]; rfl
        have e6 : s.extract 2 8 = str ((l.drop 2).take 6) := by rw [ext_part, ← HL.out]
        obtain ⟨s6, hs6⟩ : ∃ s6, s6 = s.extract 2 8 := ⟨_, rfl⟩
        have hz6 : s6.size ≤ 6 := by rw [hs6, e6, str_size, List.length_take]; omega
        have hR6 := fun W => rnumber_any W s6 hz6
        obtain ⟨tt, htt⟩ : ∃ tt, tt = unbe s6.data.toList := ⟨_, rfl⟩
        rw [← htt] at hR6
        have hta : tt = unbe ((l.drop 2).take 6) := by rw [htt, hs6, e6, str_list]
        have HR6 := Lib.hid hR6
        have h8 : (8 : Int) ≤ s.size := by omega
        have HTA := Lib.hid hta
        have HDD := Lib.hid hdd
        have hs6' := hs6.symm
        clear hR6 hta htt hd hdd e6 hs6
        go_enter Tryz.func138, Tryz.ntmps138
        go_wp2_with fail
        obtain ⟨w1, hw1⟩ : ∃ w1, w1 = w.alloc (.cells #[.int .i64 0, .int .i64 0, .string { data := #[] }] 136) := ⟨_, rfl⟩
        have HB1 := Lib.hid (show Blk w1 w.heap.size 136 _ by rw [hw1]; exact Blk.new w _ _)
        have HK1 := Lib.hid (show Keeps (fun _ => False) w w1 by rw [hw1]; (repeat (first | (with_reducible assumption) | (with_reducible exact Keeps.refl _ _) | refine Keeps.drew ?_ | refine Keeps.drewN ?_ _ | refine Keeps.setCell ?_ (by simp) _ | refine Keeps.setRow ?_ (by simp) _ | refine Keeps.alloc ?_ _)))
        rw [← hw1]
        have HZ1 := Lib.hid (show w1.heap.size = w.heap.size + 1 by rw [hw1]; simp)
        clear hw1
        have hwd : IntKind.i64.wrap (d.toNat : Int) = d.toNat := wrap_in (by omega) (by have := d.toNat_lt; omega)
        go_cut [5] (fun s5 wx => ∃ q : Nat, s5 = .pointer (some ⟨q, 0, none⟩) ∧ Hid (Blk wx q 136 #[.int .i64 d.toNat, .int .i64 tt, .string ⟨#[]⟩] ∧ w.heap.size < q ∧ Keeps (fun _ => False) w1 wx))
        case first =>
          go_region_held3 (fun w2 => Keeps (fun _ => False) w1 w2)
            ((repeat (first | (with_reducible assumption) | (with_reducible exact Keeps.refl _ _) | refine Keeps.drew ?_ | refine Keeps.drewN ?_ _ | refine Keeps.setCell ?_ (by simp) _ | refine Keeps.setRow ?_ (by simp) _ | refine Keeps.alloc ?_ _)))
            ((go_at_call 202; rename_i hk _ _; refine (HR6.out _).mono ?_; rintro e w3 ⟨rfl, hw3⟩; have k3 : Keeps (fun _ => False) _ w3 := Keeps.of_eq hw3; have kk : Keeps (fun _ => False) w1 w3 := hk.trans k3; have kz := kk.size; try (have bn := Blk.keeps (Blk.new w1 136 #[.int .i64 0, .int .i64 0, .string { data := #[] }]) k3.from_drew id; have be := bn.all3); clear hw3))
          all_goals (go_wp2_with fail; go_meet)
          all_goals
            refine ⟨_, rfl, Lib.hid ⟨?_, ?_, ?_⟩⟩
            · first
                | with_reducible exact (Blk.new w1 136 #[.int .i64 d.toNat, .int .i64 tt, .string { data := #[] }]).drew
                | with_reducible exact bn.setC3 _ _ _
            · have := HZ1.out; omega
            · first
                | with_reducible exact kk.setC3 (Nat.le_refl _) _ _ _
                | ((repeat (first | (with_reducible assumption) | (with_reducible exact Keeps.refl _ _) | refine Keeps.drew ?_ | refine Keeps.drewN ?_ _ | refine Keeps.setCell ?_ (by simp) _ | refine Keeps.setRow ?_ (by simp) _ | refine Keeps.alloc ?_ _)))
        case rest =>
          obtain ⟨q, rfl, HQ⟩ := hcut
          obtain ⟨⟨c0, c1, c2⟩, f0, f1, f2⟩ := HQ.out.1.all3
          have HK2 := Lib.hid (HK1.out.trans HQ.out.2.2)
          have hqs := HQ.out.2.1
          have hql := HQ.out.1.lt
          obtain ⟨kc, hkc⟩ : ∃ kc, kc = checkI 1 2 5 ⟨(d.toNat : Int), (tt : Int), ⟨#[]⟩⟩ := ⟨_, rfl⟩
          have hck := fun W => r8check_any W ⟨(d.toNat : Int), (tt : Int), ⟨#[]⟩⟩
          rw [← hkc] at hck
          unfold itmV at hck
          have HCK := Lib.hid hck
          have HKC := Lib.hid hkc
          clear hck hkc
          go_wp2_with fail
          refine (HCK.out _).mono ?_
          rintro e w3 ⟨rfl, k3⟩
          have HB3 := Lib.hid (HQ.out.1.keeps k3 id)
          have HK3 := Lib.hid (HK2.out.trans k3)
          have HR3 := Lib.hid ((HB1.out.keeps HQ.out.2.2 id).keeps k3 id)
          clear c0 c1 c2 f0 f1 f2 k3
          by_cases hk0 : kc = 0
          · subst hk0
            have hok0 : Itm.ok ⟨(d.toNat : Int), (tt : Int), ⟨#[]⟩⟩ := by
              by_cases hh : Itm.ok ⟨(d.toNat : Int), (tt : Int), ⟨#[]⟩⟩
              · exact hh
              · exact absurd HKC.out.symm (check_no (by decide) (by decide) (by decide) hh)
            have e2 : s.extract 8 10 = str ((l.drop 8).take 2) := by rw [ext_part, ← HL.out]
            obtain ⟨s2, hs2⟩ : ∃ s2, s2 = s.extract 8 10 := ⟨_, rfl⟩
            have hz2 : s2.size ≤ 2 := by rw [hs2, e2, str_size, List.length_take]; omega
            have hR2 := fun W => rnumber_any W s2 (by omega)
            obtain ⟨n, hn⟩ : ∃ n, n = unbe s2.data.toList := ⟨_, rfl⟩
            rw [← hn] at hR2
            have hnk : gotK l = n := by rw [hn, hs2, e2, str_list]; rfl
            have hn16 : n ≤ 65536 := by rw [hn]; have := unbe_lt s2.data.toList; have e : s2.data.toList.length = s2.size := by simp
                                        have : 256 ^ s2.data.toList.length ≤ 256 ^ 2 := Nat.pow_le_pow_right (by omega) (by omega)
                                        omega
            have hgi : gotI l = ⟨(d.toNat : Int), (tt : Int), str ((l.drop 10).take n)⟩ := by unfold gotI; rw [HDD.out, ← HTA.out, hnk]
            have HR2 := Lib.hid hR2
            have HNK := Lib.hid hnk
            have HGI := Lib.hid hgi
            have hs2' := hs2.symm
            have h10' : (10 : Int) ≤ s.size := by omega
            have HOK := Lib.hid hok0
            clear hR2 hs2 hnk hgi hn e2 hok0
            by_cases hnb : 4096 < n
            · have HW := Lib.hid (show ¬ Whole l from fun h => by have := h.len; rw [HNK.out] at this; omega)
              obtain ⟨⟨z0, z1, z2⟩, g0, g1, g2⟩ := HR3.out.all3
              go_wp2_with (go_at_call 202; refine (HR2.out _).mono ?_; rintro e w4 ⟨rfl, rfl⟩)
              try simp only [Exit.inBlock, Exit.then]
              refine ret_ctt rfl w.heap.size 136 _ _ rfl (HR3.out.setC3 _ _ _) Tryz.underlying136 rfl (by kernel_rfl) rfl ⟨?_, HK3.out.setC3 (by omega) _ _ _⟩
              exact HNO.out 5 (by decide) HW.out
            · by_cases hsz : s.size < 14 + n
              · have HW := Lib.hid (show ¬ Whole l from fun h => by have := h.all; rw [HNK.out, HN.out] at this; omega)
                obtain ⟨⟨z0, z1, z2⟩, g0, g1, g2⟩ := HR3.out.all3
                go_wp2_with (go_at_call 202; refine (HR2.out _).mono ?_; rintro e w4 ⟨rfl, rfl⟩)
                try simp only [Exit.inBlock, Exit.then]
                refine ret_ctt rfl w.heap.size 136 _ _ rfl (HR3.out.setC3 _ _ _) Tryz.underlying136 rfl (by kernel_rfl) rfl ⟨?_, HK3.out.setC3 (by omega) _ _ _⟩
                exact HNO.out 13 (by decide) HW.out
              · have eb : s.extract 10 (10 + n) = str ((l.drop 10).take n) := by rw [ext_part, ← HL.out]; congr 2; omega
                obtain ⟨sb, hsb⟩ : ∃ sb, sb = s.extract 10 (10 + n) := ⟨_, rfl⟩
                have hzb : sb.size ≤ 4096 := by rw [hsb, eb, str_size, List.length_take]; omega
                have hxe : gotI l = ⟨(d.toNat : Int), (tt : Int), sb⟩ := by rw [HGI.out, hsb, eb]
                have hxo : Itm.ok ⟨(d.toNat : Int), (tt : Int), sb⟩ := ⟨HOK.out.1, HOK.out.2.1, hzb⟩
                have hP := fun W => r8put_ok W _ hxo
                have hrl := recP_len ⟨(d.toNat : Int), (tt : Int), sb⟩
                obtain ⟨sp, hsp⟩ : ∃ sp, sp = str (recP ⟨(d.toNat : Int), (tt : Int), sb⟩) := ⟨_, rfl⟩
                rw [← hsp] at hP
                unfold itmV at hP
                have ea : s.extract 0 (14 + n) = str (l.take (14 + n)) := by rw [ext_part, ← HL.out]; simp
                obtain ⟨sa, hsa⟩ : ∃ sa, sa = s.extract 0 (14 + n) := ⟨_, rfl⟩
                have hiff : sa = sp ↔ Whole l := by
                  rw [hsa, ea, hsp, str_inj]
                  constructor
                  · intro hh
                    exact whole_mk (by rw [HDD.out]; have := HOK.out.1; simp only at this; omega) (by rw [← HTA.out]; have := HOK.out.2.1; simp only at this; omega) (by rw [HNK.out]; omega) (by rw [HNK.out, hxe]; exact hh)
                  · intro hh
                    have := hh.put
                    rw [HNK.out, hxe] at this
                    exact this
                have HP := Lib.hid hP
                have HIF := Lib.hid hiff
                have HXE := Lib.hid hxe
                have hsb' : s.extract 10 (10 + n) = sb := hsb.symm
                have hsa' : s.extract 0 (14 + n) = sa := hsa.symm
                obtain ⟨⟨c0, c1, c2⟩, f0, f1, f2⟩ := HB3.out.all3
                clear hP hiff hxe hxo hsp hsb hsa eb ea hrl
                go_wp2_with (go_at_call 202; refine (HR2.out _).mono ?_; rintro e w4 ⟨rfl, rfl⟩)
                refine (HP.out _).mono ?_
                rintro e w5 ⟨rfl, k5⟩
                have HBX := Lib.hid (((HB3.out.set_ 2 (.string sb)).keeps k5 id : Blk w5 q 136 #[.int .i64 d.toNat, .int .i64 tt, .string sb]))
                have HRX := Lib.hid ((HR3.out.far (p := ⟨q, 2, none⟩) (by show w.heap.size ≠ q; omega) (.string sb)).keeps k5 id)
                have HKX := Lib.hid ((HK3.out.setNewC (g := q) (i := 2) (by omega) (.string sb)).trans k5)
                clear c0 c1 c2 f0 f1 f2 k5
                obtain ⟨c0, c1, c2⟩ := HBX.out.cells3
                obtain ⟨⟨z0, z1, z2⟩, g0, g1, g2⟩ := HRX.out.all3
                by_cases hq : sa = sp
                · have HW := Lib.hid (HIF.out.1 hq)
                  have hb : (sa.toList == sp.toList) = true := by rw [hq]; exact beq_self_eq_true _
                  clear hq
                  go_wp2_with fail
                  try simp only [Exit.inBlock, Exit.then]
                  refine ret_ctt rfl w.heap.size 136 _ _ rfl (HRX.out.setC3 _ _ _) Tryz.underlying136 rfl (by kernel_rfl) rfl ⟨?_, HKX.out.setC3 (by omega) _ _ _⟩
                  rw [HE.out]
                  refine .inl ⟨HW.out, ?_⟩
                  rw [HXE.out, HNK.out]
                  rfl
                · have HW := Lib.hid (show ¬ Whole l from fun h => hq (HIF.out.2 h))
                  have hb : (sa.toList == sp.toList) = false := by
                    rw [beq_eq_false_iff_ne, ByteArray.toList_eq, ByteArray.toList_eq]
                    exact fun h => hq (ba_ext h)
                  clear hq
                  go_wp2_with fail
                  try simp only [Exit.inBlock, Exit.then]
                  refine ret_ctt rfl w.heap.size 136 _ _ rfl (HRX.out.setC3 _ _ _) Tryz.underlying136 rfl (by kernel_rfl) rfl ⟨?_, HKX.out.setC3 (by omega) _ _ _⟩
                  exact HNO.out 4 (by decide) HW.out
          · have hw : ¬ Whole l := fun h => hk0 (by
              rw [HKC.out]
              have hok := h.ok
              have hk1 := h.kind
              have ha1 := h.at_
              rw [HDD.out] at hk1
              rw [← HTA.out] at ha1
              exact check_ok (e1 := 1) (e2 := 2) (e3 := 5) (x := ⟨(d.toNat : Int), (tt : Int), ⟨#[]⟩⟩) ⟨⟨by show (1 : Int) ≤ d.toNat; omega, by show (d.toNat : Int) ≤ 15; omega⟩, ⟨by show (0 : Int) ≤ tt; omega, by show (tt : Int) ≤ 1099511627776; omega⟩, by show (0 : Nat) ≤ 4096; omega⟩)
            have HW := Lib.hid hw
            have bk0 : (kc == 0) = false := by rw [beq_eq_false_iff_ne]; exact hk0
            obtain ⟨⟨z0, z1, z2⟩, g0, g1, g2⟩ := HR3.out.all3
            clear hw
            go_wp2_with fail
            try simp only [Exit.inBlock, Exit.then]
            refine ret_ctt rfl w.heap.size 136 _ _ rfl (HR3.out.setC3 _ _ _) Tryz.underlying136 rfl (by kernel_rfl) rfl ⟨?_, HK3.out.setC3 (by omega) _ _ _⟩
            exact HNO.out _ hk0 HW.out
    · have hw : ¬ Whole l := fun h => by have := h.w; rw [HC.out] at this; exact h87 (Option.some.inj this)
      have b87 : ((c.toNat : Int) == 87) = false := by rw [beq_eq_false_iff_ne]; intro e; exact h87 (UInt8.toNat_inj.1 (by show c.toNat = 87; omega))
      have HW := Lib.hid hw
      clear hw h87
      go_enter Tryz.func138, Tryz.ntmps138
      go_wp2_with fail
      try simp only [Exit.inBlock, Exit.then]
      refine ret_ctt rfl w.heap.size 136 _ _ rfl (Blk.new w _ _) Tryz.underlying136 rfl (by kernel_rfl) rfl ⟨?_, by (repeat (first | (with_reducible assumption) | (with_reducible exact Keeps.refl _ _) | refine Keeps.drew ?_ | refine Keeps.drewN ?_ _ | refine Keeps.setCell ?_ (by simp) _ | refine Keeps.setRow ?_ (by simp) _ | refine Keeps.alloc ?_ _))⟩
      exact HNO.out 3 (by decide) HW.out
end Go.Proofs.YtkmpdobojgiegaaGreatDoor

/-
  journal: a journal over a store, while acts go on: made, Rests, Lost, turn, put.
-/
namespace Go.Proofs.YtkmpdobojgiegaaGreatDoor
open Go.RowKit Go.Maps
variable [Res]

/-- a journal at jb, over the store at s -/
structure Jour (w0 w : World) (s M jb : Nat) (most : Int) (bad : Nat) (L : List SRep) (n : Nat) (base : ByteArray) (k size : Nat) (rest : Bool) (lost : Nat) : Prop where
  sto : Sto w0 w s M most bad L n
  blk : Blk w jb 159 #[.pointer (some ⟨s, 0, none⟩), .string base, .int .i64 k, .int .i64 size, .bool rest, .int .i64 lost]
  lo : w0.heap.size ≤ jb
  k1 : 1 ≤ k ∧ k ≤ 16
  sz : 64 ≤ size ∧ size ≤ 1048576
  bz : base.size ≤ 1048576
  ll : lost ≤ 1048576
omit [Res] in
theorem Blk.all6 {w : World} {g : Nat} {t : TypeId} {a b c d e f : Value} (h : Blk w g t #[a, b, c, d, e, f]) : (w.cell? ⟨g, 0, none⟩ = some a ∧ w.cell? ⟨g, 1, none⟩ = some b ∧ w.cell? ⟨g, 2, none⟩ = some c ∧ w.cell? ⟨g, 3, none⟩ = some d ∧ w.cell? ⟨g, 4, none⟩ = some e ∧ w.cell? ⟨g, 5, none⟩ = some f) ∧ w.frozen? ⟨g, 4, none⟩ = false ∧ w.frozen? ⟨g, 5, none⟩ = false := ⟨⟨h.cell 0, h.cell 1, h.cell 2, h.cell 3, h.cell 4, h.cell 5⟩, h.frozen 4, h.frozen 5⟩
omit [Res] in
theorem heldP_is {k : Nat} (h : 1 ≤ k ∧ k ≤ 16) : heldP (k : Int) = k := by unfold heldP; omega
section
variable {w0 w w' : World} {s M jb bad n k size lost : Nat} {most : Int} {L : List SRep} {base : ByteArray} {rest : Bool}
theorem Jour.same (h : Jour w0 w s M jb most bad L n base k size rest lost) (kk : Keeps (fun _ => False) w w') : Jour w0 w' s M jb most bad L n base k size rest lost :=
  ⟨h.sto.same kk, h.blk.keeps kk id, h.lo, h.k1, h.sz, h.bz, h.ll⟩
/-- the store has acted -/
theorem Jour.move {bad' n' : Nat} {L' : List SRep} (h : Jour w0 w s M jb most bad L n base k size rest lost) (hS : Sto w0 w' s M most bad' L' n') (kk : Keeps (fun i => w0.heap.size ≤ i ∧ StR w i) w w') : Jour w0 w' s M jb most bad' L' n' base k size rest lost :=
  ⟨hS, h.blk.other kk (by decide) (by decide) (by decide), h.lo, h.k1, h.sz, h.bz, h.ll⟩
theorem Jour.le_n (h : Jour w0 w s M jb most bad L n base k size rest lost) {m : Nat} (hn : n ≤ m) (hm : m ≤ 1048576) : Jour w0 w s M jb most bad L m base k size rest lost :=
  ⟨h.sto.le_n hn hm, h.blk, h.lo, h.k1, h.sz, h.bz, h.ll⟩
set_option maxRecDepth 100000 in
theorem jmade (h : Jour w0 w s M jb most bad L n base k size rest lost) : Calls Tryz.prog 77 #[.pointer (some ⟨jb, 0, none⟩)] w fun e w' => e = .returned (.bool true) ∧ w' = w := by
  obtain ⟨⟨c0, c1, c2, c3, c4, c5⟩, f4, f5⟩ := h.blk.all6
  have hk : ¬ ((k : Int) = 0) := by have := h.k1; omega
  clear h
  go_enter Tryz.func77, Tryz.ntmps77
  go_wp2_with fail
  go_ret
  exact ⟨rfl, rfl⟩
/-- behind an act on the log's files -/
def Acted (w0 w : World) (s M jb : Nat) (most : Int) (n : Nat) (base : ByteArray) (k size : Nat) (rest : Bool) (lost : Nat) (x : Int × Nat × List SFile) (e : Ending) (w' : World) : Prop :=
  ∃ v L, e = .returned v ∧ ErrV w' x.1 v ∧ Jour w0 w' s M jb most x.2.1 L n base k size rest lost ∧ L.map SRep.f = x.2.2 ∧ Keeps (fun i => w0.heap.size ≤ i ∧ StR w i) w w'
set_option maxRecDepth 100000 in
set_option maxHeartbeats 1000000 in
theorem jturn (h : Jour w0 w s M jb most bad L n base k size rest lost) (hn : n ≤ 999000) : Calls Tryz.prog 197 #[.pointer (some ⟨jb, 0, none⟩)] w (Acted w0 w s M jb most (n + 18) base k size rest lost (turnedP base k bad (L.map SRep.f))) := by
  have H := Lib.hid h
  obtain ⟨R, hR⟩ : ∃ R, R = turnedP base k bad (L.map SRep.f) := ⟨_, rfl⟩
  rw [← hR]
  have HRR := Lib.hid hR
  clear hR
  obtain ⟨⟨c0, c1, c2, c3, c4, c5⟩, f4, f5⟩ := h.blk.all6
  obtain ⟨x, hx⟩ : ∃ x, x = syncP bad (L.map SRep.f) base := ⟨_, rfl⟩
  have hS := fun W (kk : Keeps (fun _ => False) w W) => ssync (h.sto.same kk) (by omega) base
  rw [← hx] at hS
  have HS := Lib.hid hS
  have HX := Lib.hid hx
  clear h hS hx c2 c3 c4 c5 f4 f5
  go_enter Tryz.func197, Tryz.ntmps197
  go_wp2_with fail
  go_region_held3 (fun w2 => w2.cell? ⟨jb, 0, none⟩ = some (.pointer (some ⟨s, 0, none⟩)) ∧ w2.cell? ⟨jb, 1, none⟩ = some (.string base))
    ((first | exact ⟨c0, c1⟩ | exact ⟨d0, d1⟩))
    ((go_at_call 130; refine (HS.out _ (by (repeat (first | (with_reducible assumption) | (with_reducible exact Keeps.refl _ _) | refine Keeps.drew ?_ | refine Keeps.drewN ?_ _ | refine Keeps.setCell ?_ (by simp) _ | refine Keeps.setRow ?_ (by simp) _ | refine Keeps.alloc ?_ _)))).mono ?_; rintro e w3 ⟨v, L3, rfl, hE, hS3, hl3, k3⟩; have k3 := k3.from_drew; have HJ3 := Lib.hid (H.out.move hS3 k3); have HE3 := Lib.hid hE; have HL3 := Lib.hid hl3; have HK3 := Lib.hid k3; obtain ⟨⟨d0, d1, d2, -, -, -⟩, -, -⟩ := HJ3.out.blk.all6; clear hS3 hl3 k3))
  have HKK := Lib.hid (show Keeps (fun i => w0.heap.size ≤ i ∧ StR w i) w w3 from HK3.out)
  clear k3 HK3 c0 c1
  by_cases hx0 : x.1 = 0
  · rw [hx0] at hE
    obtain rfl := hE.nil_
    have htd : R = turnP base (k - 1) x.2.1 (L3.map SRep.f) := by
      rw [HRR.out]
      unfold turnedP
      rw [← HX.out, if_neg (by simp [hx0]), HL3.out]
    have hT := fun W (kk : Keeps (fun _ => False) w3 W) => gturn_any (HJ3.out.sto.same kk) (by omega) base (k : Int) H.out.bz
    rw [heldP_is H.out.k1, ← htd] at hT
    have HT := Lib.hid hT
    obtain ⟨⟨-, -, d2, -, -, -⟩, -, -⟩ := HJ3.out.blk.all6
    clear hE hx0 htd hT
    go_wp2_with fail
    go_region_held3 (fun w2 => w2.cell? ⟨jb, 0, none⟩ = some (.pointer (some ⟨s, 0, none⟩)) ∧ w2.cell? ⟨jb, 1, none⟩ = some (.string base) ∧ w2.cell? ⟨jb, 2, none⟩ = some (.int .i64 k))
      ((first | exact ⟨d0, d1, d2⟩ | exact ⟨g0, g1, g2⟩))
      ((go_at_call 170; refine (HT.out _ (by (repeat (first | (with_reducible assumption) | (with_reducible exact Keeps.refl _ _) | refine Keeps.drew ?_ | refine Keeps.drewN ?_ _ | refine Keeps.setCell ?_ (by simp) _ | refine Keeps.setRow ?_ (by simp) _ | refine Keeps.alloc ?_ _)))).mono ?_; rintro e w4 ⟨v4, L4, rfl, hE4, hS4, hl4, k4⟩; have k4 := k4.from_drew; have HJ4 := Lib.hid (HJ3.out.move hS4 k4); have HE4 := Lib.hid hE4; have HL4 := Lib.hid hl4; have HK4 := Lib.hid k4; obtain ⟨⟨g0, g1, g2, -, -, -⟩, -, -⟩ := HJ4.out.blk.all6; clear hE4 hS4 hl4 k4))
    have HKE := Lib.hid (show Keeps (fun i => w0.heap.size ≤ i ∧ StR w3 i) w3 w4 from HK4.out)
    clear HK4 g0 g1 g2 d0 d1 d2
    go_wp2_with fail
    go_ret
    exact ⟨_, L4, rfl, HE4.out, HJ4.out, HL4.out, HKK.out.twice HKE.out⟩
  · obtain ⟨ty, x', rfl⟩ := hE.iface hx0
    have htd : R = x := by
      rw [HRR.out]
      unfold turnedP
      rw [← HX.out, if_pos hx0]
    have HRX := Lib.hid htd
    have HXX := Lib.hid hx0
    clear hE hx0 htd d0 d1
    go_wp2_with fail
    refine (wrap_err _ HE3.out HXX.out _).mono ?_
    rintro e w4 ⟨⟨v4, rfl, E4⟩, k4⟩
    have HE4 := Lib.hid E4
    have HK4 := Lib.hid k4
    clear E4 k4
    go_wp2_with fail
    go_ret
    rw [HRX.out]
    exact ⟨_, L3, rfl, HE4.out, (HJ3.out.same HK4.out).le_n (m := n + 18) (by omega) (by omega), HL3.out, HKK.out.thenSt HK4.out⟩
/-- how many bytes a name's file has -/
theorem ssize_sz (h : Sto w0 w s M most bad L n) {nm : ByteArray} (hn : nm.size ≤ maxLen) : Calls Tryz.prog 162 #[.pointer (some ⟨s, 0, none⟩), .string nm] w fun e w' => (∃ q : Int, e = .returned (.tuple #[.int .i64 (szG nm (L.map SRep.f) : Nat), .int .i64 q])) ∧ Keeps (fun _ => False) w w' := by
  unfold szG
  cases hg : getG SFile.name nm (L.map SRep.f) with
  | none => exact (ssize_none h hn hg).mono fun e w' hh => ⟨⟨0, hh.1⟩, hh.2⟩
  | some f => exact (ssize_some h hn hg).mono fun e w' hh => ⟨⟨_, hh.1⟩, hh.2⟩
theorem szG_le (h : Sto w0 w s M most bad L n) (nm : ByteArray) : szG nm (L.map SRep.f) ≤ 16777216 := by
  unfold szG
  cases hg : getG SFile.name nm (L.map SRep.f) with
  | none => exact Nat.zero_le _
  | some f =>
    obtain ⟨r, hr, e⟩ := List.mem_map.1 (getG_some hg).1
    have := (h.size hr).2.1
    rw [← e]
    exact this
set_option maxRecDepth 100000 in
set_option maxHeartbeats 1000000 in
theorem jput (h : Jour w0 w s M jb most bad L n base k size rest lost) (hn : n ≤ 999000) (b : ByteArray) (hb : b.size ≤ 1048576) (hbn : base.size ≤ 64) : Calls Tryz.prog 134 #[.pointer (some ⟨jb, 0, none⟩), .string b] w (Acted w0 w s M jb most (n + 19) base k size rest lost (putP most base k size bad (L.map SRep.f) b)) := by
  have H := Lib.hid h
  obtain ⟨R, hR⟩ : ∃ R, R = putP most base k size bad (L.map SRep.f) b := ⟨_, rfl⟩
  rw [← hR]
  obtain ⟨⟨c0, c1, c2, c3, c4, c5⟩, f4, f5⟩ := h.blk.all6
  have hbm : base.size ≤ maxLen := by unfold maxLen; omega
  have hS := fun W (kk : Keeps (fun _ => False) w W) => ssize_sz (h.sto.same kk) hbm
  have hz := szG_le h.sto base
  obtain ⟨hz1, hz2⟩ := h.sz
  obtain ⟨z, hzz⟩ : ∃ z, z = szG base (L.map SRep.f) := ⟨_, rfl⟩
  rw [← hzz] at hS hz
  unfold putP at hR
  rw [← hzz] at hR
  have HS := Lib.hid hS
  have HR := Lib.hid hR
  have HA := Lib.hid (fun W bad' L' n' (hj : Jour w0 W s M jb most bad' L' n' base k size rest lost) (hn' : n' < 1048576) => sappend hj.sto hn' base b (by omega))
  have HT := Lib.hid (fun W (hj : Jour w0 W s M jb most bad L n base k size rest lost) => jturn hj hn)
  have hw : IntKind.i64.wrap ((size : Int) - z) = (size : Int) - z := wrap_in (by omega) (by omega)
  clear h hS hzz hR c2 c4 c5 f4 f5
  by_cases hc : 0 < z ∧ size < z + b.size
  · obtain ⟨T, hT⟩ : ∃ T, T = turnedP base k bad (L.map SRep.f) := ⟨_, rfl⟩
    have hR2 := HR.out
    rw [if_pos hc, ← hT] at hR2
    rw [← hT] at HT
    have HR2 := Lib.hid hR2
    obtain ⟨hc1, hc2⟩ := hc
    have hd1 : (0 : Int) < z := by omega
    have hd2 : (size : Int) - z < b.size := by omega
    clear hR2 hT hc1 hc2 HR
    go_enter Tryz.func134, Tryz.ntmps134
    go_wp2_with fail
    go_region_held3 (fun w2 => w2.cell? ⟨jb, 0, none⟩ = some (.pointer (some ⟨s, 0, none⟩)) ∧ w2.cell? ⟨jb, 1, none⟩ = some (.string base))
      ((first | exact ⟨c0, c1⟩ | exact ⟨d0, d1⟩))
      ((go_at_call 162; refine (HS.out _ (by (repeat (first | (with_reducible assumption) | (with_reducible exact Keeps.refl _ _) | refine Keeps.drew ?_ | refine Keeps.drewN ?_ _ | refine Keeps.setCell ?_ (by simp) _ | refine Keeps.setRow ?_ (by simp) _ | refine Keeps.alloc ?_ _)))).mono ?_; rintro e w3 ⟨⟨q, rfl⟩, k3⟩; have k3 := k3.from_drew; have HJ3 := Lib.hid (H.out.same k3); have HK3 := Lib.hid k3; obtain ⟨⟨d0, d1, d2, d3, -, -⟩, -, -⟩ := HJ3.out.blk.all6; clear k3))
    clear c0 c1 c3
    go_wp2_with fail
    refine (HT.out _ HJ3.out).mono ?_
    rintro e w4 ⟨v4, L4, rfl, hE, hJ4, hl4, k4⟩
    have HJ4 := Lib.hid hJ4
    have HE4 := Lib.hid hE
    have HL4 := Lib.hid hl4
    have HK4 := Lib.hid (St.none_ HK3.out k4)
    clear hJ4 hl4 k4 d0 d1 d2 d3
    by_cases hx0 : T.1 = 0
    · rw [hx0] at hE
      obtain rfl := hE.nil_
      have hRA : R = appendP most T.2.1 (L4.map SRep.f) base b := by rw [HR2.out, if_neg (by simp [hx0]), HL4.out]
      have hA := fun W (kk : Keeps (fun _ => False) w4 W) => HA.out W _ _ _ (HJ4.out.same kk) (by omega)
      rw [← hRA] at hA
      have HA2 := Lib.hid hA
      obtain ⟨⟨d0, d1, -, -, -, -⟩, -, -⟩ := HJ4.out.blk.all6
      clear hA hRA hE hx0
      go_wp2_with fail
      go_region_held3 (fun w2 => w2.cell? ⟨jb, 0, none⟩ = some (.pointer (some ⟨s, 0, none⟩)) ∧ w2.cell? ⟨jb, 1, none⟩ = some (.string base))
        ((first | exact ⟨d0, d1⟩ | exact ⟨g0, g1⟩))
        ((go_at_call 198; refine (HA2.out _ (by (repeat (first | (with_reducible assumption) | (with_reducible exact Keeps.refl _ _) | refine Keeps.drew ?_ | refine Keeps.drewN ?_ _ | refine Keeps.setCell ?_ (by simp) _ | refine Keeps.setRow ?_ (by simp) _ | refine Keeps.alloc ?_ _)))).mono ?_; rintro e w5 ⟨v5, L5, rfl, hE5, hS5, hl5, k5⟩; have k5 := k5.from_drew; have HJ5 := Lib.hid (HJ4.out.move hS5 k5); have HE5 := Lib.hid hE5; have HL5 := Lib.hid hl5; have HK5 := Lib.hid k5; obtain ⟨⟨g0, g1, -, -, -, -⟩, -, -⟩ := HJ5.out.blk.all6; clear hE5 hS5 hl5 k5))
      have HKE := Lib.hid (show Keeps (fun i => w0.heap.size ≤ i ∧ StR w4 i) w4 w5 from HK5.out)
      clear HK5 g0 g1 d0 d1
      go_wp2_with fail
      go_ret
      exact ⟨_, L5, rfl, HE5.out, HJ5.out, HL5.out, HK4.out.twice HKE.out⟩
    · obtain ⟨ty, x', rfl⟩ := hE.iface hx0
      have hRA : R = T := by rw [HR2.out, if_pos hx0]
      have HRA := Lib.hid hRA
      clear hRA hE hx0
      go_wp2_with fail
      go_ret
      rw [HRA.out]
      exact ⟨_, L4, rfl, HE4.out, HJ4.out.le_n (m := n + 19) (by omega) (by omega), HL4.out, HK4.out⟩
  · have hR2 := HR.out
    rw [if_neg hc] at hR2
    have HR2 := Lib.hid hR2
    have hA := fun W (hj : Jour w0 W s M jb most bad L n base k size rest lost) => HA.out W _ _ _ hj (by omega)
    rw [← hR2] at hA
    have HA2 := Lib.hid hA
    clear hR2 hA HR HA
    rcases Nat.eq_zero_or_pos z with hz0 | hz0
    all_goals
      first
        | (have hd1 : ¬ (0 : Int) < z := by omega)
        | (have hd1 : (0 : Int) < z := by omega
           have hd2 : ¬ (size : Int) - z < b.size := by omega)
      clear hc hz0
      go_enter Tryz.func134, Tryz.ntmps134
      go_wp2_with fail
      go_region_held3 (fun w2 => w2.cell? ⟨jb, 0, none⟩ = some (.pointer (some ⟨s, 0, none⟩)) ∧ w2.cell? ⟨jb, 1, none⟩ = some (.string base))
        ((first | exact ⟨c0, c1⟩ | exact ⟨d0, d1⟩))
        ((go_at_call 162; refine (HS.out _ (by (repeat (first | (with_reducible assumption) | (with_reducible exact Keeps.refl _ _) | refine Keeps.drew ?_ | refine Keeps.drewN ?_ _ | refine Keeps.setCell ?_ (by simp) _ | refine Keeps.setRow ?_ (by simp) _ | refine Keeps.alloc ?_ _)))).mono ?_; rintro e w3 ⟨⟨q, rfl⟩, k3⟩; have k3 := k3.from_drew; have HJ3 := Lib.hid (H.out.same k3); have HK3 := Lib.hid k3; obtain ⟨⟨d0, d1, d2, d3, -, -⟩, -, -⟩ := HJ3.out.blk.all6; clear k3))
      clear c0 c1 c3
      go_wp2_with fail
      go_region_held3 (fun w2 => w2.cell? ⟨jb, 0, none⟩ = some (.pointer (some ⟨s, 0, none⟩)) ∧ w2.cell? ⟨jb, 1, none⟩ = some (.string base))
        ((first | exact ⟨d0, d1⟩ | exact ⟨g0, g1⟩))
        ((go_at_call 198; refine (HA2.out _ (HJ3.out.same (by (repeat (first | (with_reducible assumption) | (with_reducible exact Keeps.refl _ _) | refine Keeps.drew ?_ | refine Keeps.drewN ?_ _ | refine Keeps.setCell ?_ (by simp) _ | refine Keeps.setRow ?_ (by simp) _ | refine Keeps.alloc ?_ _))))).mono ?_; rintro e w5 ⟨v5, L5, rfl, hE5, hS5, hl5, k5⟩; have k5 := k5.from_drew; have HJ5 := Lib.hid (HJ3.out.move hS5 k5); have HE5 := Lib.hid hE5; have HL5 := Lib.hid hl5; have HK5 := Lib.hid k5; obtain ⟨⟨g0, g1, -, -, -, -⟩, -, -⟩ := HJ5.out.blk.all6; clear hE5 hS5 hl5 k5))
      have HKE := Lib.hid (show Keeps (fun i => w0.heap.size ≤ i ∧ StR w3 i) w3 w5 from HK5.out)
      clear HK5 g0 g1 d0 d1 d2 d3
      go_wp2_with fail
      go_ret
      exact ⟨_, L5, rfl, HE5.out, HJ5.out.le_n (m := n + 19) (by omega) (by omega), HL5.out, St.none_ HK3.out HKE.out⟩
end
end Go.Proofs.YtkmpdobojgiegaaGreatDoor

/-
  Items and acts of law22's statements, read out of an argument. No program in sight.
-/
namespace Go.Proofs.YtkmpdobojgiegaaGreatDoor
open Go.RowKit Go.ChangeShapes Go.WideShapes Go.Deep

def itmR (x : Itm) : List Value := [.int .i64 x.kind, .int .i64 x.at_, .string x.body]
structure Op22 where
  kind : Nat
  x : Itm
  n : Nat
section
variable {H : Type} {enc : TypeId × Value → H} {P : Program} {w : World} {base : Nat} {spare : Nat → Bool} {held : Bool}
end
end Go.Proofs.YtkmpdobojgiegaaGreatDoor

/-
  The document's items of bytes (wheelhouseref08.Scan), whether two rows of items are the same, the items of all generations (wheelhouseref22.Load), and whether items are a piece of a row (Within).
-/
namespace Go.Proofs.YtkmpdobojgiegaaGreatDoor
open Go.RowKit

theorem itmR_len : ∀ x : Itm, (itmR x).length = 3 := fun _ => rfl
theorem itmR_ones (x : Itm) : ∀ u ∈ itmR x, u.oneCell' = true := by
  intro u hu
  simp only [itmR, List.mem_cons, List.not_mem_nil, or_false] at hu
  rcases hu with rfl | rfl | rfl <;> rfl
theorem Blk.newB2 (w : World) (o : Obj) (t : TypeId) (cs : Array Value) : Blk ((w.alloc o).alloc (.cells cs t)) (w.heap.size + 1) t cs := by
  have := Blk.new (w.alloc o) t cs
  simpa using this
/-- what Scan tells of bytes -/
def scanN (l : List UInt8) : Nat := (flatR (scanI l)).length
theorem flat_scan : ∀ (f : Nat) (l : List UInt8), l.length ≤ f → flatR (scanI l) = l.take (scanN l)
  | f, l, hf => by
    by_cases h : Whole l
    · have hs := scan_more h
      have hp := h.put
      have ha := h.all
      have hrl := recP_len (gotI l)
      rw [h.body] at hrl
      match f, hf with
      | 0, hf => omega
      | f + 1, hf =>
        have ih := flat_scan f (l.drop (14 + gotK l)) (by rw [List.length_drop]; omega)
        have e : scanN l = 14 + gotK l + scanN (l.drop (14 + gotK l)) := by
          unfold scanN
          rw [hs, flatR_cons, List.length_append, hrl]
        rw [hs, flatR_cons, ← hp, ih, e]
        exact List.take_add.symm
    · rw [scan_no h]
      unfold scanN
      rw [scan_no h]
      rfl
/-- items that a call gathers -/
abbrev OwnI (w : World) (B : Nat) (v : Value) (xs : List Itm) : Prop := OwnS itmR 3 w B 136 v xs
theorem OwnI.slat {w : World} {B : Nat} {v : Value} {xs : List Itm} (h : OwnI w B v xs) : ∃ a c, v = .slice a xs.length c ∧ SlAt itmR 3 w a xs.length xs := by
  obtain ⟨a, cap, hv, _, _, hg, hc⟩ := OwnS.shape h itmR_len
  refine ⟨a, cap, hv, rfl, fun hp => ?_⟩
  obtain ⟨g, hga, _, hlt, _⟩ := hg hp
  refine ⟨g, 0, hga, hlt, fun i x j u hx hu => ?_⟩
  rw [Nat.zero_add]
  exact (hc g hga i x j u hx hu).1
theorem scan_len (l : List UInt8) : 14 * (scanI l).length ≤ l.length := by
  have h := flat_scan l.length l (Nat.le_refl _)
  have h2 : (flatR (scanI l)).length ≤ l.length := by rw [h, List.length_take]; omega
  have h3 : ∀ xs : List Itm, 14 * xs.length ≤ (flatR xs).length := by
    intro xs
    induction xs with
    | nil => simp [flatR]
    | cons x xs ih => rw [flatR_cons, List.length_append, recP_len, List.length_cons]; omega
  have := h3 (scanI l)
  omega
set_option maxRecDepth 100000 in
set_option maxHeartbeats 1000000 in
theorem r8scan_any (w : World) (s : ByteArray) (hs : s.size ≤ 1073741824) : Calls Tryz.prog 67 #[.string s] w fun e w' => (∃ v, e = .returned (.tuple #[v, .int .i64 (scanN s.data.toList : Nat)]) ∧ OwnI w' w.heap.size v (scanI s.data.toList)) ∧ Keeps (fun _ => False) w w' := by
  have hlen : s.data.toList.length = s.size := by simp
  obtain ⟨l, hl⟩ : ∃ l, l = s.data.toList := ⟨_, rfl⟩
  rw [← hl] at hlen ⊢
  have HL := Lib.hid hl
  have HN := Lib.hid hlen
  clear hl hlen
  go_enter Tryz.func67, Tryz.ntmps67
  go_wp2_with fail
  go_loopw [4, 5] (fun u4 u5 wr => ∃ (at_ : Nat) (xs : List Itm), u5 = .int .i64 at_ ∧ at_ ≤ s.size ∧ Hid (OwnI wr w.heap.size u4 xs ∧ xs ++ scanI (l.drop at_) = scanI l ∧ at_ = (flatR xs).length ∧ 14 * xs.length ≤ at_ ∧ Keeps (fun _ => False) w wr)) (fun _ u5 _ => s.size - (intOf u5).toNat)
  case atStart => exact ⟨0, [], rfl, Nat.zero_le _, Lib.hid ⟨OwnS.none_, by simp, rfl, Nat.le_refl _, Keeps.refl _ _⟩⟩
  case round =>
    obtain ⟨at_, xs, rfl, hat, HI⟩ := hrel
    rename World => wr
    obtain ⟨a4, c4, rfl⟩ := HI.out.1.sl
    by_cases hlt : at_ < s.size
    · have hex : s.extract at_ s.size = str (l.drop at_) := by rw [ext_part, ← HL.out, List.take_of_length_le (by rw [List.length_drop, HN.out]; omega)]
      obtain ⟨sx, hsx⟩ : ∃ sx, sx = s.extract at_ s.size := ⟨_, rfl⟩
      have hsz : sx.size ≤ 1073741824 := by rw [hsx, hex, str_size, List.length_drop]; have := HN.out; omega
      have hr := fun W => r8read_any W sx hsz
      have e : sx.data.toList = l.drop at_ := by rw [hsx, hex, str_list]
      rw [e] at hr
      have HR := Lib.hid hr
      have hsx' := hsx.symm
      clear hr e hex hsx
      go_wp2_with fail
      refine (HR.out _).mono ?_
      rintro e w3 ⟨he, k3⟩
      have HK3 := Lib.hid k3
      have HOW := Lib.hid (OwnS.keeps (S := fun _ => False) HI.out.1 k3 (fun _ _ _ _ => id))
      clear k3
      rcases he with ⟨hW, rfl⟩ | ⟨hW, c, hc, rfl⟩
      · have hsm := scan_more hW
        have hall := hW.all
        have hbd := hW.body
        rw [List.length_drop, HN.out] at hall
        obtain ⟨x, hx⟩ : ∃ x, x = gotI (l.drop at_) := ⟨_, rfl⟩
        obtain ⟨n, hn⟩ : ∃ n, n = 14 + gotK (l.drop at_) := ⟨_, rfl⟩
        have hrl := recP_len x
        rw [← hx] at hbd
        rw [hbd, ← hn] at hrl
        rw [← hx, ← hn, List.drop_drop] at hsm
        rw [← hx, ← hn]
        have HSM := Lib.hid hsm
        have HRL := Lib.hid hrl
        have hn14 : 14 ≤ n := by omega
        have hna : at_ + n ≤ s.size := by omega
        have h14 := HI.out.2.2.2.1
        have hxs : xs.length ≤ 1073741824 := by omega
        clear hW hsm hall hbd hx hn hrl h14
        obtain ⟨k0, t0, b0⟩ := x
        unfold itmV
        go_wp2_with (with_reducible show wpList _ _ _ (⟨some 28, _, _, _, _, _⟩ :: _) _ _; go_must (refine wpList_append_st itmR 3 itmR_len (by decide) rfl (.tmp 25) (.tmp 27) 67 rfl w.heap.size 136 (.agg #[.int .i64 0, .int .i64 0, .string ⟨#[]⟩]) 32 Tryz.underlying67 (by kernel_rfl) rfl (by omega) (.slice a4 xs.length c4) xs rfl (OwnS.keeps (S := fun _ => False) HOW.out (((Keeps.refl _ _).alloc _).alloc _) (fun _ _ _ _ => id)) (w3.heap.size + 1) 1 ⟨k0, t0, b0⟩ rfl (Blk.newB2 _ _ _ _) (itmR_ones _) (by omega) (by simp; have := (HI.out.2.2.2.2.trans HK3.out).size; omega) ?_; intro v7 w7 O7 k7))
        refine ⟨⟨at_ + n, xs ++ [⟨k0, t0, b0⟩], by rw [Int.natCast_add], hna, Lib.hid ⟨O7, ?_, ?_, ?_, ?_⟩⟩, by simp [intOf]; omega⟩
        · rw [List.append_assoc, List.singleton_append, ← HSM.out]; exact HI.out.2.1
        · have h := HI.out.2.2.1
          rw [flatR_append, List.length_append, ← h, flatR_cons, List.length_append, HRL.out]
          simp [flatR]
        · have h := HI.out.2.2.2.1
          rw [List.length_append]
          simp only [List.length_cons, List.length_nil]
          omega
        · exact Keeps.and_ (((HI.out.2.2.2.2.trans HK3.out).alloc _).alloc _) k7 (fun i hi h => absurd h.1 (by omega))
      · have hsn := scan_no hW
        have he := HI.out.2.1
        rw [hsn, List.append_nil] at he
        have hn := HI.out.2.2.1
        rw [he] at hn
        have HE := Lib.hid he
        have HN2 := Lib.hid hn
        have bc : (c == 0) = false := by rw [beq_eq_false_iff_ne]; exact hc
        clear hW hsn he hn hc
        go_wp2_with fail
        go_ret2
        refine ⟨⟨_, by rw [HN2.out]; rfl, ?_⟩, ?_⟩
        · rw [← HE.out]
          exact OwnS.keeps (S := fun _ => False) HOW.out ((Keeps.refl _ _).alloc _) (fun _ _ _ _ => id)
        · exact (HI.out.2.2.2.2.trans HK3.out).alloc _
    · have he := HI.out.2.1
      have hd : l.drop at_ = [] := List.drop_eq_nil_of_le (by rw [HN.out]; omega)
      rw [hd, scan_nil, List.append_nil] at he
      have hn := HI.out.2.2.1
      rw [he] at hn
      have HE := Lib.hid he
      have HN2 := Lib.hid hn
      clear hd he hn
      go_wp2_with fail
      go_ret2
      refine ⟨⟨_, by rw [HN2.out]; rfl, ?_⟩, HI.out.2.2.2.2⟩
      rw [← HE.out]
      exact HI.out.1

/-! rows of items -/
theorem itm_take {l : List Itm} {i : Nat} {x : Itm} (h : l[i]? = some x) : l.take (i + 1) = l.take i ++ [x] := by rw [List.take_add_one, h]; rfl
/-- a row's item, as cells that stay -/
theorem itm_at {w : World} {a : Option Addr} {n : Nat} {l : List Itm} (h : SlAt itmR 3 w a n l) {i : Nat} {x : Itm} (hx : l[i]? = some x) : ∃ b off, a = some ⟨b, off, none⟩ ∧ b < w.heap.size ∧ ∀ W, Keeps (fun _ => False) w W → W.cell? ⟨b, off + i * 3, none⟩ = some (.int .i64 x.kind) ∧ W.cell? ⟨b, off + i * 3 + 1, none⟩ = some (.int .i64 x.at_) ∧ W.cell? ⟨b, off + i * 3 + 2, none⟩ = some (.string x.body) := by
  have hi : i < l.length := (List.getElem?_eq_some_iff.1 hx).1
  obtain ⟨b, off, ha, hb, hc⟩ := h.2 (by rw [← h.1]; omega)
  refine ⟨b, off, ha, hb, fun W k => ?_⟩
  have hh : ∀ j v, (itmR x)[j]? = some v → W.cell? ⟨b, off + i * 3 + j, none⟩ = some v := fun j v hj => (World.cell?_of_block (w := w) (k.block b hb id)).trans (hc i x j v hx hj)
  exact ⟨hh 0 _ rfl, hh 1 _ rfl, hh 2 _ rfl⟩
instance : DecidableEq Itm := fun a b => decidable_of_iff (a.kind = b.kind ∧ a.at_ = b.at_ ∧ a.body = b.body) ⟨fun h => by
  obtain ⟨h1, h2, h3⟩ := h
  cases a; cases b
  simp only at h1 h2 h3
  rw [h1, h2, h3], fun h => by rw [h]; exact ⟨rfl, rfl, rfl⟩⟩
end Go.Proofs.YtkmpdobojgiegaaGreatDoor

/-
  The items of all generations (wheelhouseref22.Load), and whether items are a piece of a row (Within).
-/
namespace Go.Proofs.YtkmpdobojgiegaaGreatDoor
open Go.RowKit

theorem load_snoc {ds : List ByteArray} {i : Nat} {d : ByteArray} (h : ds[i]? = some d) : loadP (ds.take (i + 1)) = loadP (ds.take i) ++ scanI d.data.toList := by
  rw [take_snoc10 h, load_app, load_one]
theorem load_len {ds : List ByteArray} {z : Nat} (h : ∀ d ∈ ds, d.size ≤ z) : (loadP ds).length ≤ ds.length * z := by
  induction ds with
  | nil => simp [loadP]
  | cons d ds ih =>
    have e : loadP (d :: ds) = scanI d.data.toList ++ loadP ds := by unfold loadP; rw [List.flatMap_cons]
    have h1 := scan_len d.data.toList
    have h2 : d.data.toList.length = d.size := by simp
    have h3 := h d (List.mem_cons_self ..)
    have h4 := ih fun x hx => h x (List.mem_cons_of_mem _ hx)
    rw [e, List.length_append, List.length_cons, Nat.succ_mul]
    omega
set_option maxRecDepth 100000 in
set_option maxHeartbeats 1000000 in
theorem rload_any (w : World) (a : Option Addr) (n c : Nat) (ds : List ByteArray) (h : SlAt strR 1 w a n ds) (hn : n ≤ 64) (hz : ∀ d ∈ ds, d.size ≤ 16777216) :
    Calls Tryz.prog 18 #[.slice a n c] w fun e w' => (∃ v, e = .returned v ∧ OwnI w' w.heap.size v (loadP ds)) ∧ Keeps (fun _ => False) w w' := by
  have HL := Lib.hid h
  have HN := Lib.hid h.1
  have hll := load_len hz
  rw [h.1] at hll
  have HLL := Lib.hid (show (loadP ds).length ≤ 1073741824 by omega)
  have HZ := Lib.hid hz
  clear h hz hll
  go_enter Tryz.func18, Tryz.ntmps18
  go_wp2_with fail
  go_loopw [3, 4] (fun u3 u4 wr => ∃ i : Nat, u4 = .int .i64 i ∧ i ≤ n ∧ Hid (OwnI wr w.heap.size u3 (loadP (ds.take i)) ∧ Keeps (fun _ => False) w wr)) (fun _ u4 _ => n - (intOf u4).toNat)
  case atStart => exact ⟨0, rfl, Nat.zero_le _, Lib.hid ⟨OwnS.none_, Keeps.refl _ _⟩⟩
  case round =>
    obtain ⟨i, rfl, hi, HI⟩ := hrel
    rename World => wr
    obtain ⟨a3, c3, rfl⟩ := HI.out.1.sl
    by_cases hlt : i < n
    · obtain ⟨d, hd⟩ : ∃ d, ds[i]? = some d := ⟨_, List.getElem?_eq_getElem (by rw [HN.out]; exact hlt)⟩
      obtain ⟨b, off, rfl, hc⟩ := slat_at (HL.out.keeps HI.out.2 (fun _ _ => id)) hd
      have hsn := load_snoc hd
      have hmem := List.mem_of_getElem? hd
      have hR := fun W => r8scan_any W d (by have := HZ.out d hmem; omega)
      have hlen : (loadP (ds.take (i + 1))).length ≤ (loadP ds).length := by
        have e : loadP ds = loadP (ds.take (i + 1)) ++ loadP (ds.drop (i + 1)) := by rw [← load_app, List.take_append_drop]
        rw [e, List.length_append]; omega
      have HR := Lib.hid hR
      have HSN := Lib.hid hsn
      have HLE := Lib.hid hlen
      clear hR hsn hlen hmem hd
      go_wp2_with fail
      refine (HR.out _).mono ?_
      rintro e w3 ⟨⟨v, rfl, hO⟩, k3⟩
      obtain ⟨av, cv, rfl⟩ := hO.sl
      have HO3 := Lib.hid hO
      have HX3 := Lib.hid (OwnS.keeps (S := fun _ => False) HI.out.1 k3 (fun _ _ _ _ => id))
      have HK3 := Lib.hid (HI.out.2.trans k3)
      clear hO k3 hc
      go_wp2_with (with_reducible show wpList _ _ _ (⟨some 23, _, _, _, _, _⟩ :: _) _ _; go_must (refine wpList_append_many itmR 3 itmR_len (by decide) itmR_ones rfl (.tmp 21) (.tmp 22) 67 rfl w.heap.size wr.heap.size 136 (.agg #[.int .i64 0, .int .i64 0, .string ⟨#[]⟩]) 32 Tryz.underlying67 (by kernel_rfl) rfl (by omega) (.slice a3 (loadP (ds.take i)).length c3) (.slice av (scanI d.data.toList).length cv) (loadP (ds.take i)) (scanI d.data.toList) rfl HX3.out rfl HO3.out (by rw [← List.length_append, ← HSN.out]; have := HLL.out; have := HLE.out; omega) HK3.out.size ?_; intro v7 w7 O7 k7))
      refine ⟨⟨i + 1, by go_num, by omega, Lib.hid ⟨by rw [HSN.out]; exact O7, Keeps.and_ HK3.out k7 (fun i hi h => absurd h.1 (by omega))⟩⟩, by simp [intOf]; omega⟩
    · have he : loadP (ds.take i) = loadP ds := by rw [List.take_of_length_le (by rw [HN.out]; omega)]
      have HE := Lib.hid he
      clear he
      go_wp2_with fail
      go_ret
      exact ⟨⟨_, rfl, by rw [← HE.out]; exact HI.out.1⟩, HI.out.2⟩
end Go.Proofs.YtkmpdobojgiegaaGreatDoor

/-
  journal: Add, Sync, Reopen, New; law22's fine.
-/
namespace Go.Proofs.YtkmpdobojgiegaaGreatDoor
open Go.RowKit Go.Maps
variable [Res]

/-- the kinds of blocks that a journal and its store are made of -/
def JT (jb : Nat) (w : World) (i : Nat) : Prop := StR w i ∨ i = jb ∧ ∃ cs, Blk w i 159 cs
theorem JT.not {w : World} {jb i : Nat} {t : TypeId} {cs : Array Value} (h : JT jb w i) (hb : Blk w i t cs) (h1 : t ≠ 103) (h2 : t ≠ 140) (h3 : t ≠ 5) (h4 : t ≠ 159) : False := by
  rcases h with h | ⟨-, cs', h⟩
  · exact h.not hb h1 h2 h3
  · exact hb.ne_ h h4 rfl
theorem Keeps.st {F : Nat → Prop} {jb : Nat} {w w' : World} (k : Keeps (fun i => F i ∧ StR w i) w w') : Keeps (fun i => F i ∧ JT jb w i) w w' := k.mono fun _ _ h => ⟨h.1, .inl h.2⟩
theorem Keeps.noneJ {F : Nat → Prop} {jb : Nat} {w w' : World} (k : Keeps (fun _ => False) w w') : Keeps (fun i => F i ∧ JT jb w i) w w' := k.none_
section
variable {w0 w w' w2 : World} {s M jb bad n k size lost : Nat} {most : Int} {L : List SRep} {base : ByteArray} {rest : Bool}
/-- .. and then a journal's own block is written -/
theorem Keeps.thenB {F : Nat → Prop} {a b c : World} {g : Nat} {cs : Array Value} (h : Keeps (fun i => F i ∧ JT g a i) a b) (hb : Blk a g 159 cs) (hF : F g) (kk : Keeps (fun i => i = g) b c) : Keeps (fun i => F i ∧ JT g a i) a c := h.and_ kk (fun i _ e => by rw [e]; exact ⟨hF, .inr ⟨rfl, cs, hb⟩⟩)
omit [Res] in
theorem Keeps.setJ {a b : World} (h : Keeps (fun _ => False) a b) (g i : Nat) (u : Value) : Keeps (fun j => j = g) a (b.setCell ⟨g, i, none⟩ u) := (h.none_ (S := fun j => j = g)).setCell (fun _ => rfl) u
/-- the journal's own block is written: rest, and how many are lost -/
theorem Jour.put_ {rest' : Bool} {lost' : Nat} (h : Jour w0 w s M jb most bad L n base k size rest lost) (kk : Keeps (fun i => i = jb) w w') (hb : Blk w' jb 159 #[.pointer (some ⟨s, 0, none⟩), .string base, .int .i64 k, .int .i64 size, .bool rest', .int .i64 lost']) (hl : lost' ≤ 1048576) : Jour w0 w' s M jb most bad L n base k size rest' lost' :=
  ⟨h.sto.beside kk (fun i e => by rw [e]; exact ⟨h.lo, _, _, h.blk, by decide, by decide, by decide⟩), hb, h.lo, h.k1, h.sz, h.bz, hl⟩
/-- behind Add -/
def Added (w0 w : World) (s M jb : Nat) (most : Int) (bad : Nat) (l : List SFile) (n : Nat) (base : ByteArray) (k size : Nat) (rest : Bool) (lost : Nat) (R : Int × Nat × List SFile) (e : Ending) (w' : World) : Prop :=
  (∃ L', e = .returned (.bool true) ∧ rest = false ∧ R.1 = 0 ∧ Jour w0 w' s M jb most R.2.1 L' n base k size false lost ∧ L'.map SRep.f = R.2.2 ∧ Keeps (fun i => w0.heap.size ≤ i ∧ JT jb w i) w w') ∨
  (∃ L', e = .returned (.bool false) ∧ rest = false ∧ R.1 ≠ 0 ∧ Jour w0 w' s M jb most R.2.1 L' n base k size true (lost + 1) ∧ L'.map SRep.f = R.2.2 ∧ Keeps (fun i => w0.heap.size ≤ i ∧ JT jb w i) w w') ∨
  (∃ L', e = .returned (.bool false) ∧ rest = true ∧ Jour w0 w' s M jb most bad L' n base k size true (lost + 1) ∧ L'.map SRep.f = l ∧ Keeps (fun i => w0.heap.size ≤ i ∧ JT jb w i) w w')
set_option maxRecDepth 100000 in
set_option maxHeartbeats 1000000 in
theorem jadd (h : Jour w0 w s M jb most bad L n base k size rest lost) (hn : n ≤ 999000) (hbn : base.size ≤ 64) (hll : lost ≤ 1000000) (x : Itm) (hx : x.ok) :
    Calls Tryz.prog 64 #[.pointer (some ⟨jb, 0, none⟩), itmV x] w (Added w0 w s M jb most bad (L.map SRep.f) (n + 19) base k size rest lost (putP most base k size bad (L.map SRep.f) (str (recP x)))) := by
  have H := Lib.hid h
  obtain ⟨R, hR⟩ : ∃ R, R = putP most base k size bad (L.map SRep.f) (str (recP x)) := ⟨_, rfl⟩
  rw [← hR]
  have hrl := recP_len x
  have hxb := hx.2.2
  have hrp := fun W => rput_ok W x hx
  have hjp := fun W (hj : Jour w0 W s M jb most bad L n base k size rest lost) => jput hj hn (str (recP x)) (by rw [str_size]; omega) hbn
  rw [← hR] at hjp
  obtain ⟨bs, hbs⟩ : ∃ bs, bs = str (recP x) := ⟨_, rfl⟩
  rw [← hbs] at hrp hjp
  obtain ⟨k0, t0, b0⟩ := x
  unfold itmV at hrp ⊢
  have HRP := Lib.hid hrp
  have HJP := Lib.hid hjp
  have HM := Lib.hid (fun W (hj : Jour w0 W s M jb most bad L n base k size rest lost) => jmade hj)
  clear h hR hrp hjp hbs hrl hxb hx
  cases rest with
  | false =>
    go_enter Tryz.func64, Tryz.ntmps64
    go_wp2_with fail
    refine (HM.out _ (H.out.same ((Keeps.refl _ _).alloc _))).mono ?_
    rintro e w2 ⟨rfl, hw⟩
    obtain ⟨c0, c1, c2⟩ := (show Blk w2 w.heap.size 136 #[.int .i64 k0, .int .i64 t0, .string b0] by rw [hw]; exact Blk.new w _ _).cells3
    have hk2 : Keeps (fun _ => False) w w2 := by rw [hw]; (repeat (first | (with_reducible assumption) | (with_reducible exact Keeps.refl _ _) | refine Keeps.drew ?_ | refine Keeps.drewN ?_ _ | refine Keeps.setCell ?_ (by simp) _ | refine Keeps.setRow ?_ (by simp) _ | refine Keeps.alloc ?_ _))
    have HK2 := Lib.hid hk2
    obtain ⟨⟨-, -, -, -, d4, d5⟩, f4, f5⟩ := (H.out.same hk2).blk.all6
    clear hw hk2
    go_wp2_with fail
    refine (HRP.out _).mono ?_
    rintro e w3 ⟨rfl, k3⟩
    have HK3 := Lib.hid (HK2.out.trans k3)
    clear c0 c1 c2 d4 d5 f4 f5 k3
    obtain ⟨⟨-, -, -, -, d4, d5⟩, f4, f5⟩ := (H.out.same HK3.out).blk.all6
    go_wp2_with fail
    refine (HJP.out _ (H.out.same HK3.out)).mono ?_
    rintro e w4 ⟨v4, L4, rfl, hE, hJ4, hl4, k4⟩
    have HJ4 := Lib.hid hJ4
    have HL4 := Lib.hid hl4
    have HK4 := Lib.hid (St.none_ HK3.out k4)
    clear d4 d5 f4 f5 hl4 k4 hJ4
    obtain ⟨⟨-, -, -, -, d4, d5⟩, f4, f5⟩ := HJ4.out.blk.all6
    by_cases hR0 : R.1 = 0
    · rw [hR0] at hE
      obtain rfl := hE.nil_
      have HR0 := Lib.hid hR0
      clear hE hR0
      go_wp2_with fail
      go_ret
      exact .inl ⟨L4, rfl, rfl, HR0.out, HJ4.out, HL4.out, HK4.out.st⟩
    · obtain ⟨ty, x', rfl⟩ := hE.iface hR0
      have HR0 := Lib.hid hR0
      clear hE hR0
      go_wp2_with fail
      go_ret
      exact .inr (.inl ⟨L4, rfl, rfl, HR0.out, HJ4.out.put_ (((Keeps.refl _ _).setJ jb 4 _).setCell (fun _ => rfl) _) ((HJ4.out.blk.set_ 4 (.bool true)).set_ 5 (.int .i64 ((lost : Int) + 1))) (by omega), HL4.out, HK4.out.st.thenB H.out.blk H.out.lo (((Keeps.refl _ _).setJ jb 4 _).setCell (fun _ => rfl) _)⟩)
  | true =>
    go_enter Tryz.func64, Tryz.ntmps64
    go_wp2_with fail
    refine (HM.out _ (H.out.same ((Keeps.refl _ _).alloc _))).mono ?_
    rintro e w2 ⟨rfl, hw⟩
    obtain ⟨c0, c1, c2⟩ := (show Blk w2 w.heap.size 136 #[.int .i64 k0, .int .i64 t0, .string b0] by rw [hw]; exact Blk.new w _ _).cells3
    have hk2 : Keeps (fun _ => False) w w2 := by rw [hw]; (repeat (first | (with_reducible assumption) | (with_reducible exact Keeps.refl _ _) | refine Keeps.drew ?_ | refine Keeps.drewN ?_ _ | refine Keeps.setCell ?_ (by simp) _ | refine Keeps.setRow ?_ (by simp) _ | refine Keeps.alloc ?_ _))
    have HK2 := Lib.hid hk2
    obtain ⟨⟨-, -, -, -, d4, d5⟩, f4, f5⟩ := (H.out.same hk2).blk.all6
    clear hw hk2
    go_wp2_with fail
    refine (HRP.out _).mono ?_
    rintro e w3 ⟨rfl, k3⟩
    have HK3 := Lib.hid (HK2.out.trans k3)
    clear c0 c1 c2 d4 d5 f4 f5 k3
    have HJ3 := Lib.hid (H.out.same HK3.out)
    obtain ⟨⟨-, -, -, -, d4, d5⟩, f4, f5⟩ := HJ3.out.blk.all6
    go_wp2_with fail
    go_ret
    exact .inr (.inr ⟨L, rfl, rfl, (HJ3.out.le_n (m := n + 19) (by omega) (by omega)).put_ (((Keeps.refl _ _).setJ jb 4 _).setCell (fun _ => rfl) _) ((HJ3.out.blk.set_ 4 (.bool true)).set_ 5 (.int .i64 ((lost : Int) + 1))) (by omega), rfl, HK3.out.noneJ.thenB H.out.blk H.out.lo (((Keeps.refl _ _).setJ jb 4 _).setCell (fun _ => rfl) _)⟩)
omit [Res] in
set_option maxRecDepth 100000 in
theorem jnone_any (w : World) {c : Int} {v : Value} (h : ErrV w c v) (hc : c ≠ 0) : Calls Tryz.prog 131 #[v] w fun e w' => e = .returned (.bool (decide (c = 7))) ∧ w' = w := by
  obtain ⟨h0, -⟩ | ⟨-, l, hl⟩ := h
  · exact absurd h0 hc
  have HI := Lib.hid (is_ok c 7 l v w hl)
  obtain ⟨ty, x, rfl⟩ := hl.form
  clear hl hc
  go_enter Tryz.func131, Tryz.ntmps131
  go_wp2_with fail
  refine HI.out.mono ?_
  rintro e w2 ⟨rfl, hw⟩
  obtain rfl : w = w2 := hw.symm
  go_wp2_with fail
  go_ret
  exact ⟨rfl, rfl⟩
/-- behind Sync -/
def Synced (w0 w : World) (s M jb : Nat) (most : Int) (bad : Nat) (l : List SFile) (n : Nat) (base : ByteArray) (k size : Nat) (rest : Bool) (lost : Nat) (x : Int × Nat × List SFile) (e : Ending) (w' : World) : Prop :=
  (∃ L', e = .returned (.bool true) ∧ rest = false ∧ (x.1 = 0 ∨ x.1 = 7) ∧ Jour w0 w' s M jb most x.2.1 L' n base k size false lost ∧ L'.map SRep.f = x.2.2 ∧ Keeps (fun i => w0.heap.size ≤ i ∧ JT jb w i) w w') ∨
  (∃ L', e = .returned (.bool false) ∧ rest = false ∧ ¬ (x.1 = 0 ∨ x.1 = 7) ∧ Jour w0 w' s M jb most x.2.1 L' n base k size true lost ∧ L'.map SRep.f = x.2.2 ∧ Keeps (fun i => w0.heap.size ≤ i ∧ JT jb w i) w w') ∨
  (∃ L', e = .returned (.bool false) ∧ rest = true ∧ Jour w0 w' s M jb most bad L' n base k size true lost ∧ L'.map SRep.f = l ∧ Keeps (fun i => w0.heap.size ≤ i ∧ JT jb w i) w w')
set_option maxRecDepth 100000 in
set_option maxHeartbeats 1000000 in
theorem jsync (h : Jour w0 w s M jb most bad L n base k size rest lost) (hn : n ≤ 999000) : Calls Tryz.prog 62 #[.pointer (some ⟨jb, 0, none⟩)] w (Synced w0 w s M jb most bad (L.map SRep.f) (n + 19) base k size rest lost (syncP bad (L.map SRep.f) base)) := by
  have H := Lib.hid h
  obtain ⟨x, hx⟩ : ∃ x, x = syncP bad (L.map SRep.f) base := ⟨_, rfl⟩
  rw [← hx]
  have hS := fun W (kk : Keeps (fun _ => False) w W) => ssync (h.sto.same kk) (by omega) base
  rw [← hx] at hS
  have HS := Lib.hid hS
  have HM := Lib.hid (jmade h)
  obtain ⟨⟨c0, c1, c2, c3, c4, c5⟩, f4, f5⟩ := h.blk.all6
  clear h hx hS c2 c3 c5 f5
  cases rest with
  | true =>
    go_enter Tryz.func62, Tryz.ntmps62
    go_wp2_with fail
    refine HM.out.mono ?_
    rintro e w2 ⟨rfl, hw⟩
    obtain rfl : w = w2 := hw.symm
    go_wp2_with fail
    go_ret
    exact .inr (.inr ⟨L, rfl, rfl, H.out.le_n (m := n + 19) (by omega) (by omega), rfl, Keeps.refl _ _⟩)
  | false =>
    go_enter Tryz.func62, Tryz.ntmps62
    go_wp2_with fail
    refine HM.out.mono ?_
    rintro e w2 ⟨rfl, hw⟩
    obtain rfl : w = w2 := hw.symm
    go_wp2_with fail
    go_region_held3 (fun w2 => w2.cell? ⟨jb, 0, none⟩ = some (.pointer (some ⟨s, 0, none⟩)) ∧ w2.cell? ⟨jb, 1, none⟩ = some (.string base))
      ((first | exact ⟨c0, c1⟩ | exact ⟨d0, d1⟩))
      ((go_at_call 130; refine (HS.out _ (by (repeat (first | (with_reducible assumption) | (with_reducible exact Keeps.refl _ _) | refine Keeps.drew ?_ | refine Keeps.drewN ?_ _ | refine Keeps.setCell ?_ (by simp) _ | refine Keeps.setRow ?_ (by simp) _ | refine Keeps.alloc ?_ _)))).mono ?_; rintro e w3 ⟨v, L3, rfl, hE, hS3, hl3, k3⟩; have k3 := k3.from_drew; have HJ3 := Lib.hid (H.out.move hS3 k3); have HE3 := Lib.hid hE; have HL3 := Lib.hid hl3; have HK3 := Lib.hid k3; obtain ⟨⟨d0, d1, -, -, d4, -⟩, g4, -⟩ := HJ3.out.blk.all6; clear hS3 hl3 k3))
    have HKK := Lib.hid (show Keeps (fun i => w0.heap.size ≤ i ∧ StR w i) w w3 from HK3.out)
    clear HK3 c0 c1
    by_cases hx0 : x.1 = 0
    · rw [hx0] at hE
      obtain rfl := hE.nil_
      have HX0 := Lib.hid hx0
      clear hE hx0
      go_wp2_with fail
      go_ret
      exact .inl ⟨L3, rfl, rfl, .inl HX0.out, (HJ3.out.le_n (m := n + 19) (by omega) (by omega)).put_ ((Keeps.refl _ _).setJ jb 4 _) (HJ3.out.blk.set_ 4 (.bool false)) H.out.ll, HL3.out, HKK.out.st.thenB H.out.blk H.out.lo ((Keeps.refl _ _).setJ jb 4 _)⟩
    · obtain ⟨ty, x', rfl⟩ := hE.iface hx0
      have HX0 := Lib.hid hx0
      clear hE
      have HNN := Lib.hid (jnone_any _ HE3.out HX0.out)
      go_wp2_with fail
      refine HNN.out.mono ?_
      rintro e w4 ⟨rfl, hw⟩
      obtain rfl : w3 = w4 := hw.symm
      by_cases h7 : x.1 = 7
      · have HX7 := Lib.hid h7
        rw [decide_eq_true h7]
        clear h7 hx0
        go_wp2_with fail
        go_ret
        exact .inl ⟨L3, rfl, rfl, .inr HX7.out, (HJ3.out.le_n (m := n + 19) (by omega) (by omega)).put_ ((Keeps.refl _ _).setJ jb 4 _) (HJ3.out.blk.set_ 4 (.bool false)) H.out.ll, HL3.out, HKK.out.st.thenB H.out.blk H.out.lo ((Keeps.refl _ _).setJ jb 4 _)⟩
      · have HX7 := Lib.hid h7
        rw [decide_eq_false h7]
        clear h7 hx0
        go_wp2_with fail
        go_ret
        exact .inr (.inl ⟨L3, rfl, rfl, fun hh => hh.elim HX0.out HX7.out, (HJ3.out.le_n (m := n + 19) (by omega) (by omega)).put_ ((Keeps.refl _ _).setJ jb 4 _) (HJ3.out.blk.set_ 4 (.bool true)) H.out.ll, HL3.out, HKK.out.st.thenB H.out.blk H.out.lo ((Keeps.refl _ _).setJ jb 4 _)⟩)
end
end Go.Proofs.YtkmpdobojgiegaaGreatDoor

/-
  journal: Reopen, New; law22's fine.
-/
namespace Go.Proofs.YtkmpdobojgiegaaGreatDoor
open Go.RowKit Go.Maps
variable [Res]

section
variable {w0 w w' : World} {s M jb bad n k size lost : Nat} {most : Int} {L : List SRep} {base : ByteArray} {rest : Bool}
end
end Go.Proofs.YtkmpdobojgiegaaGreatDoor

/-
  A store and a journal over it, with their footprints.
-/
namespace Go.Proofs.YtkmpdobojgiegaaGreatDoor
open Go.RowKit Go.Maps

/-- all but a footprint is somebody else's -/
@[reducible] def resF (w : World) (F : Nat → Prop) : Res := ⟨fun i => i < w.heap.size ∧ ¬ F i⟩
/-- a store at s, made of the blocks of F -/
def StoF (w0 w : World) (F : Nat → Prop) (s : Nat) (most : Int) (bad : Nat) (l : List SFile) (n : Nat) : Prop :=
  ∃ M L, L.map SRep.f = l ∧ (∀ i, F i → w0.heap.size ≤ i ∧ i < w.heap.size) ∧ @Sto (resF w F) w0 w s M most bad L n
section
variable {w0 w w' : World} {F S : Nat → Prop} {s M jb bad n k size lost : Nat} {most : Int} {l : List SFile} {L : List SRep} {base : ByteArray} {rest : Bool}
theorem StoF.inn (h : StoF w0 w F s most bad l n) : In F w := by obtain ⟨M, L, -, hF, -⟩ := h; exact fun i hi => (hF i hi).2
theorem StoF.lo (h : StoF w0 w F s most bad l n) : ∀ i, F i → w0.heap.size ≤ i := by obtain ⟨M, L, -, hF, -⟩ := h; exact fun i hi => (hF i hi).1
theorem StoF.from_ (h : StoF w0 w F s most bad l n) : Keeps (fun _ => False) w0 w := by obtain ⟨M, L, -, hF, hS⟩ := h; exact @Sto.keeps (resF w F) _ _ _ _ _ _ _ _ hS
/-- a store that acted, with the blocks that were its own and those that it made -/
theorem Sto.foot (h : @Sto (resF w F) w0 w' s M most bad L n) (hF : ∀ i, F i → w0.heap.size ≤ i ∧ i < w.heap.size) (hsz : w.heap.size ≤ w'.heap.size) (hw : w0.heap.size ≤ w.heap.size) : StoF w0 w' (Ext F w w') s most bad (L.map SRep.f) n := by
  have hm : ∀ i, Ext F w w' i → w0.heap.size ≤ i ∧ i < w'.heap.size := fun i hi => hi.elim (fun h => ⟨(hF i h).1, Nat.lt_of_lt_of_le (hF i h).2 hsz⟩) (fun h => ⟨Nat.le_trans hw h.1, h.2⟩)
  refine ⟨M, L, rfl, hm, ?_⟩
  obtain ⟨ety, keeps, store, res, fit, len, hn, hb, m1, m2⟩ := h
  refine @Sto.mk (resF w' (Ext F w w')) _ _ _ _ _ _ _ _ ety keeps (store.below_.mono fun i hi => ⟨hi.1.1, fun e => e.2 ?_⟩) (fun i hi => hi.1) fit len hn hb m1 m2
  by_cases h1 : i < w.heap.size
  · by_cases h2 : F i
    · exact .inl h2
    · exact absurd ⟨h1, h2⟩ hi.1.2
  · exact .inr ⟨by omega, hi.2⟩
theorem Keeps.foot {T : Nat → Prop} (k : Keeps (fun i => w0.heap.size ≤ i ∧ @StR (resF w F) w i) w w') (hT : ∀ i, F i → T i) : Keeps T w w' := k.mono fun i hi e => hT i (by
  by_cases h2 : F i
  · exact h2
  · exact absurd ⟨hi, h2⟩ e.2.1)
theorem Keeps.footJ (k : Keeps (fun i => w0.heap.size ≤ i ∧ @JT (resF w F) jb w i) w w') : Keeps (fun i => F i ∨ i = jb) w w' := k.mono fun i hi e => by
  rcases e.2 with e | e
  · by_cases h2 : F i
    · exact .inl h2
    · exact absurd ⟨hi, h2⟩ e.1
  · exact .inr e.1
theorem StoF.keeps (h : StoF w0 w F s most bad l n) (k : Keeps S w w') (hS : ∀ i, F i → ¬ S i) (h0 : ∀ i, i < w0.heap.size → ¬ S i) : StoF w0 w' F s most bad l n := by
  obtain ⟨M, L, hL, hF, ⟨ety, keeps, store, res, fit, len, hn, hb, m1, m2⟩⟩ := h
  have hst : StoreAt w F s most bad M L := store.below_.mono fun i hi => by
    by_cases h2 : F i
    · exact h2
    · exact absurd ⟨hi.2, h2⟩ hi.1.2
  have hst' : StoreAt w' F s most bad M L := hst.keeps k hS
  exact ⟨M, L, hL, fun i hi => ⟨(hF i hi).1, Nat.lt_of_lt_of_le (hF i hi).2 k.size⟩, @Sto.mk (resF w' F) _ _ _ _ _ _ _ _ ety (keeps.and_ k (fun i hi e => h0 i hi e)) (hst'.mono fun i hi => ⟨(hF i hi).1, fun e => e.2 hi⟩) (fun i hi => hi.1) fit len hn hb m1 m2⟩
theorem StoF.le_n (h : StoF w0 w F s most bad l n) {m : Nat} (hn : n ≤ m) (hm : m ≤ 1048576) : StoF w0 w F s most bad l m := by
  obtain ⟨M, L, hL, hF, hS⟩ := h
  exact ⟨M, L, hL, hF, @Sto.le_n (resF w F) _ _ _ _ _ _ _ _ hS _ hn hm⟩
/-- a journal's own block -/
structure JourB (w : World) (jb s : Nat) (base : ByteArray) (k size : Nat) (rest : Bool) (lost : Nat) : Prop where
  blk : Blk w jb 159 #[.pointer (some ⟨s, 0, none⟩), .string base, .int .i64 k, .int .i64 size, .bool rest, .int .i64 lost]
  k1 : 1 ≤ k ∧ k ≤ 16
  sz : 64 ≤ size ∧ size ≤ 1048576
  bz : base.size ≤ 1048576
  ll : lost ≤ 1048576
theorem JourB.keeps (h : JourB w jb s base k size rest lost) (kk : Keeps S w w') (hS : ¬ S jb) : JourB w' jb s base k size rest lost := ⟨h.blk.keeps kk hS, h.k1, h.sz, h.bz, h.ll⟩
theorem Jour.own [Res] (h : Jour w0 w s M jb most bad L n base k size rest lost) : JourB w jb s base k size rest lost := ⟨h.blk, h.k1, h.sz, h.bz, h.ll⟩
/-- what a log's state is: how many calls of the store fail, its files; whether the log rests, and how many items it lost -/
structure Jp where
  bad : Nat
  l : List SFile
  rest : Bool
  lost : Nat
def addJ (mst : Int) (base : ByteArray) (k size : Nat) (j : Jp) (x : Itm) : Jp × Bool :=
  if j.rest = true then ({ j with lost := j.lost + 1 }, false)
  else if (putP mst base k size j.bad j.l (str (recP x))).1 = 0 then (⟨(putP mst base k size j.bad j.l (str (recP x))).2.1, (putP mst base k size j.bad j.l (str (recP x))).2.2, false, j.lost⟩, true)
  else (⟨(putP mst base k size j.bad j.l (str (recP x))).2.1, (putP mst base k size j.bad j.l (str (recP x))).2.2, true, j.lost + 1⟩, false)
def syncJ (base : ByteArray) (j : Jp) : Jp × Bool :=
  if j.rest = true then (j, false)
  else if (syncP j.bad j.l base).1 = 0 ∨ (syncP j.bad j.l base).1 = 7 then (⟨(syncP j.bad j.l base).2.1, (syncP j.bad j.l base).2.2, false, j.lost⟩, true)
  else (⟨(syncP j.bad j.l base).2.1, (syncP j.bad j.l base).2.2, true, j.lost⟩, false)
/-- a log over a store -/
def LogF (w0 w : World) (F : Nat → Prop) (s jb : Nat) (most : Int) (base : ByteArray) (k size : Nat) (j : Jp) (n : Nat) : Prop :=
  StoF w0 w F s most j.bad j.l n ∧ JourB w jb s base k size j.rest j.lost ∧ w0.heap.size ≤ jb
theorem LogF.foot {b2 : Nat} {rest2 : Bool} {lost2 : Nat} (h : @Jour (resF w F) w0 w' s M jb most b2 L n base k size rest2 lost2) (hF : ∀ i, F i → w0.heap.size ≤ i ∧ i < w.heap.size) (hsz : w.heap.size ≤ w'.heap.size) (hw : w0.heap.size ≤ w.heap.size) :
    LogF w0 w' (Ext F w w') s jb most base k size ⟨b2, L.map SRep.f, rest2, lost2⟩ n := by
  letI : Res := resF w F
  exact ⟨Sto.foot h.sto hF hsz hw, h.own, h.lo⟩
theorem toJour (hS : @Sto (resF w F) w0 w s M most bad L n) (hJ : JourB w jb s base k size rest lost) (hlo : w0.heap.size ≤ jb) : @Jour (resF w F) w0 w s M jb most bad L n base k size rest lost := by
  letI : Res := resF w F
  exact ⟨hS, hJ.blk, hlo, hJ.k1, hJ.sz, hJ.bz, hJ.ll⟩
theorem jaddF {j : Jp} (h : LogF w0 w F s jb most base k size j n) (hn : n ≤ 999000) (hbn : base.size ≤ 64) (hll : j.lost ≤ 1000000) (x : Itm) (hx : x.ok) :
    Calls Tryz.prog 64 #[.pointer (some ⟨jb, 0, none⟩), itmV x] w fun e w' => e = .returned (.bool (addJ most base k size j x).2) ∧ LogF w0 w' (Ext F w w') s jb most base k size (addJ most base k size j x).1 (n + 19) ∧ Keeps (fun i => F i ∨ i = jb) w w' := by
  obtain ⟨⟨M, L, hL, hF, hS⟩, hJ, hlo⟩ := h
  obtain ⟨bad, l, rest, lost⟩ := j
  simp only at hL hS hJ hll
  subst hL
  have hw := (@Sto.keeps (resF w F) _ _ _ _ _ _ _ _ hS).size
  refine (@jadd (resF w F) _ _ _ _ _ _ _ _ _ _ _ _ _ _ (toJour hS hJ hlo) hn hbn hll x hx).mono ?_
  rintro e w' (⟨L', rfl, h0, h1, hj, hl, kk⟩ | ⟨L', rfl, h0, h1, hj, hl, kk⟩ | ⟨L', rfl, h0, hj, hl, kk⟩)
  · have hr : addJ most base k size ⟨bad, L.map SRep.f, rest, lost⟩ x = (⟨(putP most base k size bad (L.map SRep.f) (str (recP x))).2.1, (putP most base k size bad (L.map SRep.f) (str (recP x))).2.2, false, lost⟩, true) := by
      unfold addJ; rw [if_neg (by simp [h0]), if_pos h1]
    rw [hr]
    have := LogF.foot hj hF kk.size hw
    rw [hl] at this
    exact ⟨rfl, this, kk.footJ⟩
  · have hr : addJ most base k size ⟨bad, L.map SRep.f, rest, lost⟩ x = (⟨(putP most base k size bad (L.map SRep.f) (str (recP x))).2.1, (putP most base k size bad (L.map SRep.f) (str (recP x))).2.2, true, lost + 1⟩, false) := by
      unfold addJ; rw [if_neg (by simp [h0]), if_neg h1]
    rw [hr]
    have := LogF.foot hj hF kk.size hw
    rw [hl] at this
    exact ⟨rfl, this, kk.footJ⟩
  · have hr : addJ most base k size ⟨bad, L.map SRep.f, rest, lost⟩ x = (⟨bad, L.map SRep.f, true, lost + 1⟩, false) := by
      unfold addJ; rw [if_pos h0, h0]
    rw [hr]
    have := LogF.foot hj hF kk.size hw
    rw [hl] at this
    exact ⟨rfl, this, kk.footJ⟩
theorem jsyncF {j : Jp} (h : LogF w0 w F s jb most base k size j n) (hn : n ≤ 999000) :
    Calls Tryz.prog 62 #[.pointer (some ⟨jb, 0, none⟩)] w fun e w' => e = .returned (.bool (syncJ base j).2) ∧ LogF w0 w' (Ext F w w') s jb most base k size (syncJ base j).1 (n + 19) ∧ Keeps (fun i => F i ∨ i = jb) w w' := by
  obtain ⟨⟨M, L, hL, hF, hS⟩, hJ, hlo⟩ := h
  obtain ⟨bad, l, rest, lost⟩ := j
  simp only at hL hS hJ
  subst hL
  have hw := (@Sto.keeps (resF w F) _ _ _ _ _ _ _ _ hS).size
  refine (@jsync (resF w F) _ _ _ _ _ _ _ _ _ _ _ _ _ _ (toJour hS hJ hlo) hn).mono ?_
  rintro e w' (⟨L', rfl, h0, h1, hj, hl, kk⟩ | ⟨L', rfl, h0, h1, hj, hl, kk⟩ | ⟨L', rfl, h0, hj, hl, kk⟩)
  · have hr : syncJ base ⟨bad, L.map SRep.f, rest, lost⟩ = (⟨(syncP bad (L.map SRep.f) base).2.1, (syncP bad (L.map SRep.f) base).2.2, false, lost⟩, true) := by
      unfold syncJ; rw [if_neg (by simp [h0]), if_pos h1]
    rw [hr]
    have := LogF.foot hj hF kk.size hw
    rw [hl] at this
    exact ⟨rfl, this, kk.footJ⟩
  · have hr : syncJ base ⟨bad, L.map SRep.f, rest, lost⟩ = (⟨(syncP bad (L.map SRep.f) base).2.1, (syncP bad (L.map SRep.f) base).2.2, true, lost⟩, false) := by
      unfold syncJ; rw [if_neg (by simp [h0]), if_neg h1]
    rw [hr]
    have := LogF.foot hj hF kk.size hw
    rw [hl] at this
    exact ⟨rfl, this, kk.footJ⟩
  · have hr : syncJ base ⟨bad, L.map SRep.f, rest, lost⟩ = (⟨bad, L.map SRep.f, true, lost⟩, false) := by
      unfold syncJ; rw [if_pos h0, h0]
    rw [hr]
    have := LogF.foot hj hF kk.size hw
    rw [hl] at this
    exact ⟨rfl, this, kk.footJ⟩
end
end Go.Proofs.YtkmpdobojgiegaaGreatDoor

/-
  slices.Delete of one element, at ints.
-/
namespace Go.Proofs.YtkmpdobojgiegaaGreatDoor
open Go.RowKit

theorem intR_len (x : Int) : (intR x).length = 1 := rfl
/-- an own row, opened -/
theorem OwnS.open_ {α : Type} {R : α → List Value} {size : Nat} {w : World} {B : Nat} {e : TypeId} {v : Value} {xs : List α} (h : OwnS R size w B e v xs) (hn : 0 < xs.length) :
    ∃ g cap L, v = .slice (some ⟨g, 0, none⟩) xs.length cap ∧ B ≤ g ∧ Blk w g e (List.toArray L) ∧ xs.length ≤ cap ∧ cap ≤ maxLen ∧ L.length = cap * size ∧ L.take (xs.length * size) = (xs.map R).flatten := by
  rcases h.2 with ⟨_, h2⟩ | ⟨g, cap, cur, hv, hg, hh, h1, h2, h3, h4⟩
  · omega
  · exact ⟨g, cap, cur.toList, hv, hg, (by unfold Blk; simpa using hh), h1, h2, by simpa using h3, h4⟩
theorem OwnS.shut {α : Type} {R : α → List Value} {size : Nat} {w : World} {e : TypeId} {xs : List α} {g cap : Nat} {L : List Value} (B : Nat) (hB : B ≤ g) (hb : Blk w g e (List.toArray L)) (h1 : xs.length ≤ cap) (h2 : cap ≤ maxLen) (h3 : L.length = cap * size) (h4 : L.take (xs.length * size) = (xs.map R).flatten) (hR : ∀ x, (R x).length = size) :
    OwnS R size w B e (.slice (some ⟨g, 0, none⟩) xs.length cap) xs :=
  ⟨by rw [flat_len hR], .inr ⟨g, cap, L.toArray, rfl, hB, hb, h1, h2, by simpa using h3, by simpa using h4⟩⟩
set_option maxRecDepth 100000 in
set_option maxHeartbeats 400000 in
theorem sdel_int_ (w : World) (v : Value) (xs : List Int) (h : OwnS intR 1 w 0 3 v xs) (i j n : Nat) (hn : n = xs.length) (hj : j = i + 1) (hi : j ≤ n) : Calls Tryz.prog 313 #[v, .int .i64 i, .int .i64 j] w fun e w' =>
    ∃ v', e = .returned v' ∧ OwnS intR 1 w' 0 3 v' (xs.eraseIdx i) ∧ v'.ownBlock = v.ownBlock ∧ Keeps (fun j => v.ownBlock = some j) w w' := by
  obtain ⟨g, cap, L, rfl, -, hb, hc1, hc2, hL, hT⟩ := h.open_ (by omega)
  unfold maxLen at hc2
  rw [← hn] at hc1 hT ⊢
  obtain ⟨i0, hi0, -, hz1, -⟩ := info_parts (show (Tryz.prog.info? 3).map (fun i => (i.zero, i.size, i.bytes)) = some (some (.int .i64 0), 1, 8) by kernel_rfl)
  obtain ⟨news, hnews⟩ : ∃ news, news = ((xs.drop j).map intR).flatten := ⟨_, rfl⟩
  have hnl : news.length = (n - j) * 1 := by rw [hnews, flat_len intR_len, List.length_drop, hn]
  have hLn : n ≤ L.length := by rw [hL]; omega
  have hcell : ∀ k, k < n → w.cell? ⟨g, k, none⟩ = ((xs.map intR).flatten)[k]? := fun k hk => by
    have := hb.cell k
    rw [this, ← hT, List.getElem?_take, if_pos (by omega)]; simp
  have hsrc : ∃ A, (if cap = j then (some ⟨g, 0, none⟩ : Option Addr) else some ⟨g, j, none⟩) = some A ∧ ∀ k u, news[k]? = some u → w.drew.cell? (A.add k) = some u := by
    by_cases h : cap = j
    · refine ⟨⟨g, 0, none⟩, by rw [if_pos h], fun k u hu => ?_⟩
      rw [List.eq_nil_of_length_eq_zero (l := news) (by omega)] at hu
      cases hu
    · refine ⟨⟨g, j, none⟩, by rw [if_neg h], fun k u hu => ?_⟩
      have hk := (List.getElem?_eq_some_iff.1 hu).1
      rw [add_plain]
      show w.cell? ⟨g, j + k, none⟩ = some u
      rw [hcell _ (by omega), ← hu, hnews]
      have e : (xs.map intR).flatten = ((xs.take j).map intR).flatten ++ ((xs.drop j).map intR).flatten := by rw [← List.flatten_append, ← List.map_append, List.take_append_drop]
      rw [e, List.getElem?_append_right (by rw [flat_len intR_len, List.length_take]; omega), flat_len intR_len, List.length_take, Nat.min_eq_left (by omega)]
      congr 1; omega
  obtain ⟨A, hA, hsrc⟩ := hsrc
  have s2 : ∀ u ∈ news, u.oneCell' = true := by
    intro u hu
    rw [hnews] at hu
    obtain ⟨l, hl, hu⟩ := List.mem_flatten.1 hu
    obtain ⟨y, _, rfl⟩ := List.mem_map.1 hl
    simp [intR] at hu
    subst hu; rfl
  have s3 : ∀ k, k < news.length → (w.drew.cell? ⟨g, 0 + i * 1 + k, none⟩).isSome = true ∧ w.drew.frozen? ⟨g, 0 + i * 1 + k, none⟩ = false := by
    intro k hk
    refine ⟨?_, hb.frozen _⟩
    show (w.cell? ⟨g, 0 + i * 1 + k, none⟩).isSome = true
    rw [hb.cell, List.getElem?_toArray, List.getElem?_eq_getElem (by omega)]; rfl
  obtain ⟨W1, hW1⟩ : ∃ W1, W1 = w.drew.setCells g (0 + i * 1) news := ⟨_, rfl⟩
  have hb1 : Blk W1 g 3 (splice L (0 + i * 1) news).toArray := by rw [hW1]; exact Blk.setCells news _ _ L hb.drew (by omega)
  have k1 : Keeps (fun j => j = g) w W1 := by rw [hW1]; exact Keeps.setCells g news _ _ ((Keeps.refl (fun j => j = g) w).drew) (fun _ => rfl)
  have hsl : (splice L (0 + i * 1) news).length = L.length := splice_len _ _ _ (by omega)
  have hcl : ∀ ty, (Builtin.clear_ #[38] ty #[.slice (some ⟨g, i + (n - j), none⟩) (n - (i + (n - j))) (cap - (i + (n - j)))]).run Tryz.prog W1 = .ok (.tuple #[]) (W1.setCells g (i + (n - j)) [.int .i64 0]) :=
    fun ty => by
      have := run_clear_one W1 38 3 ty (.int .i64 0) Tryz.underlying38 (fun _ => by kernel_rfl) (by simp [Value.cells]; rfl) (by simp [Value.cells]) g (i + (n - j)) (cap - (i + (n - j))) (fun k hk => by
        rw [hb1.cell, List.getElem?_toArray, List.getElem?_eq_getElem (by rw [hsl]; simp [Value.cells] at hk; omega)]; rfl) (fun k _ => hb1.frozen _)
      rw [show n - (i + (n - j)) = 1 by omega]
      exact this
  have hic : i ≤ cap := by omega
  have hjc : j ≤ cap := by omega
  have hij : i ≤ j := by omega
  have heq : ¬ i = j := by omega
  have hres : i + (n - j) ≤ n := by omega
  have HW := Lib.hid hW1
  have HB1 := Lib.hid hb1
  have HK1 := Lib.hid k1
  have HN := Lib.hid hnews
  have HS := Lib.hid hsrc
  have HS2 := Lib.hid s2
  have HS3 := Lib.hid s3
  have HNL := Lib.hid hnl
  have HT := Lib.hid hT
  have HL := Lib.hid hL
  have HM := Lib.hid hn
  have HJ := Lib.hid hj
  have HSL := Lib.hid hsl
  clear h hb hT hL hn hj hnews hnl hLn hcell hsrc s2 s3 hW1 hb1 k1 hsl
  go_enter Tryz.func313, Tryz.ntmps313
  go_wp2_with fail
  go_region_law (refine step_append_room rfl (.tmp 22) (.tmp 25) 38 rfl 3 i0 1 Tryz.underlying38 hi0 hz1 g 0 i cap (by simp [Act.eval, Act.put]) A (n - j) (cap - j) news (by simp [Act.eval, Act.put]) HNL.out HS.out HS2.out (by omega) HS3.out ?_; rw [← HW.out])
  go_wp2_with fail
  go_ret
  have hb2 := Blk.setCells [.int .i64 0] (i + (n - j)) W1 _ HB1.out (by rw [HSL.out, HL.out]; simp only [List.length_singleton]; have := HJ.out; omega)
  have k2 : Keeps (fun k => k = g) w (W1.setCells g (i + (n - j)) [.int .i64 0]) := Keeps.setCells g [.int .i64 0] (i + (n - j)) W1 HK1.out (fun _ => rfl)
  have hel : (xs.eraseIdx i).length = i + (n - j) := by have h1 := HM.out; have h2 := HJ.out; rw [List.length_eraseIdx_of_lt (by omega)]; omega
  have ho := OwnS.shut (R := intR) (size := 1) (xs := xs.eraseIdx i) (cap := cap) 0 (Nat.zero_le _) hb2 (by omega) (by unfold maxLen; exact hc2) (by rw [splice_len _ _ _ (by rw [HSL.out, HL.out]; simp only [List.length_singleton]; have := HJ.out; omega), HSL.out, HL.out]) ?_ intR_len
  · rw [hel] at ho
    refine ⟨_, rfl, ho, by simp [Value.ownBlock], k2.mono fun k _ e => by simp [Value.ownBlock]; exact e.symm⟩
  · rw [hel]
    have hjj := HJ.out
    have hnn := HM.out
    have hnl := HNL.out
    have hLl := HL.out
    rw [List.eraseIdx_eq_take_drop_succ, List.map_append, List.flatten_append, ← hjj, ← HN.out]
    apply List.ext_getElem?
    intro k
    have hf1 : ((xs.take i).map intR).flatten.length = i := by rw [flat_len intR_len, List.length_take]; omega
    have hTL : ∀ k, k < i → L[k]? = ((xs.take i).map intR).flatten[k]? := fun k hk => by
      have h1 := congrArg (fun l => l[k]?) HT.out
      simp only [List.getElem?_take] at h1
      rw [if_pos (by omega)] at h1
      rw [h1]
      have e : (xs.map intR).flatten = ((xs.take i).map intR).flatten ++ ((xs.drop i).map intR).flatten := by rw [← List.flatten_append, ← List.map_append, List.take_append_drop]
      rw [e, List.getElem?_append_left (by omega)]
    rw [List.getElem?_take]
    by_cases hk : k < (i + (n - j)) * 1
    · rw [if_pos hk, splice_get _ _ _ (by rw [HSL.out]; simp only [List.length_singleton]; omega), if_neg (by omega), splice_get _ _ _ (by omega)]
      by_cases h1 : k < i
      · rw [if_neg (by omega), List.getElem?_append_left (by omega), hTL k h1]
      · rw [if_pos (by omega), List.getElem?_append_right (by omega), hf1]
        congr 1; omega
    · rw [if_neg hk, List.getElem?_eq_none (by rw [List.length_append, hf1]; omega)]
theorem sdel_int (w : World) (v : Value) (xs : List Int) (h : OwnS intR 1 w 0 3 v xs) (i : Nat) (hi : i < xs.length) : Calls Tryz.prog 313 #[v, .int .i64 i, .int .i64 ((i : Int) + 1)] w fun e w' =>
    ∃ v', e = .returned v' ∧ OwnS intR 1 w' 0 3 v' (xs.eraseIdx i) ∧ v'.ownBlock = v.ownBlock ∧ Keeps (fun j => v.ownBlock = some j) w w' := by
  have := sdel_int_ w v xs h i (i + 1) xs.length rfl rfl hi
  rwa [Int.natCast_succ] at this
end Go.Proofs.YtkmpdobojgiegaaGreatDoor

/-
  slices.Index at ints: where the first such number lies, or -1.
-/
namespace Go.Proofs.YtkmpdobojgiegaaGreatDoor
open Go.RowKit

/-- r is where x first lies in xs -/
def IdxIs (xs : List Int) (x r : Int) : Prop := (∃ k : Nat, k < xs.length ∧ r = k ∧ xs[k]? = some x ∧ ∀ j, j < k → xs[j]? ≠ some x) ∨ (r = -1 ∧ x ∉ xs)
set_option maxRecDepth 100000 in
set_option maxHeartbeats 400000 in
theorem sidx_int_ (w : World) (v : Value) (xs : List Int) (x : Int) (n : Nat) (hn : n = xs.length) (hbig : n ≤ 9223372036854775807) (h : OwnS intR 1 w 0 3 v xs) : Calls Tryz.prog 314 #[v, .int .i64 x] w fun e w' =>
    ∃ r, e = .returned (.int .i64 r) ∧ IdxIs xs x r ∧ w' = w := by
  rcases Nat.eq_zero_or_pos n with h0 | h0
  · obtain ⟨b, cap, rfl, -⟩ := h.shape intR_len
    rw [← hn, h0]
    obtain rfl : xs = [] := List.eq_nil_of_length_eq_zero (by omega)
    clear h hn
    go_enter Tryz.func314, Tryz.ntmps314
    go_wp2
    go_loop [5, 8] (fun _ i => i = .int .i64 0) (fun _ _ => 0)
    case atStart => rfl
    case round =>
      subst hrel
      go_wp2
      go_ret
      exact ⟨_, rfl, .inr ⟨rfl, by simp⟩, rfl⟩
  · obtain ⟨g, cap, L, rfl, -, hb, hc1, hc2, hL, hT⟩ := h.open_ (by omega)
    have hcl : ∀ k, k < n → ∃ y, xs[k]? = some y ∧ w.cell? ⟨g, k, none⟩ = some (.int .i64 y) := fun k hk => by
      refine ⟨xs[k], List.getElem?_eq_getElem (by omega), ?_⟩
      have e := flat_get intR_len xs k xs[k] 0 (.int .i64 xs[k]) (List.getElem?_eq_getElem (by omega)) rfl
      rw [Nat.mul_one, Nat.add_zero] at e
      rw [hb.cell, List.getElem?_toArray, ← e, ← hT, List.getElem?_take, if_pos (by omega)]
    rw [← hn]
    have HC := Lib.hid hcl
    have HN := Lib.hid hn
    clear h hb hc1 hc2 hL hT hcl hn
    go_enter Tryz.func314, Tryz.ntmps314
    go_wp2
    go_loop [5, 8] (fun _ i => ∃ k : Nat, k ≤ n ∧ i = .int .i64 k ∧ ∀ j, j < k → xs[j]? ≠ some x) (fun _ i => match i with | .int _ m => n - m.toNat | _ => 0)
    case atStart => exact ⟨0, Nat.zero_le _, rfl, fun j hj => absurd hj (Nat.not_lt_zero _)⟩
    case round =>
      obtain ⟨k, hk, rfl, hne⟩ := hrel
      by_cases hlt : k < n
      · obtain ⟨y, hy, hcell⟩ := HC.out k hlt
        have HY := Lib.hid hy
        have HE := Lib.hid hne
        clear hy hne
        have hltz : (k : Int) < (n : Int) := by omega
        by_cases hxy : x = y
        · subst hxy
          go_wp2
          go_ret
          exact ⟨_, rfl, .inl ⟨k, by rw [← HN.out]; exact hlt, rfl, HY.out, HE.out⟩, rfl⟩
        · have hb : (x == y) = false := by simpa using hxy
          go_wp2
          refine ⟨⟨k + 1, by omega, by rw [Int.natCast_add]; rfl, fun j hj => ?_⟩, ?_⟩
          · by_cases e : j = k
            · subst e
              rw [HY.out]
              intro he
              injection he with he
              exact hxy he.symm
            · exact HE.out j (by omega)
          · show n - ((k : Int) + 1).toNat < n - (k : Int).toNat
            omega
      · have : k = n := by omega
        subst this
        have HE := Lib.hid hne
        clear hne
        go_wp2
        go_ret
        refine ⟨_, rfl, .inr ⟨rfl, fun hm => ?_⟩, rfl⟩
        obtain ⟨j, hj, e⟩ := List.mem_iff_getElem.1 hm
        exact HE.out j (by rw [HN.out]; exact hj) (by rw [List.getElem?_eq_getElem hj, e])
end Go.Proofs.YtkmpdobojgiegaaGreatDoor

/-
  queue: a queue of numbers in memory: Place, Len.
-/
namespace Go.Proofs.YtkmpdobojgiegaaGreatDoor
open Go.RowKit

theorem Blk.cellsQ {w : World} {g : Nat} {t : TypeId} {a b : Value} (h : Blk w g t #[a, b]) : (w.cell? ⟨g, 0, none⟩ = some a ∧ w.cell? ⟨g, 1, none⟩ = some b) ∧ w.frozen? ⟨g, 0, none⟩ = false ∧ w.frozen? ⟨g, 1, none⟩ = false := ⟨⟨h.cell 0, h.cell 1⟩, h.frozen 0, h.frozen 1⟩
/-- a queue in memory: its row and how many it may hold -/
def QueV (w : World) (F : Nat → Prop) (q : Nat) (most : Int) (l : List Int) (v : Value) : Prop := Blk w q 275 #[v, .int .i64 most] ∧ OwnS intR 1 w 0 3 v l ∧ F q ∧ ∀ j, v.ownBlock = some j → F j
def QueAt (w : World) (F : Nat → Prop) (q : Nat) (most : Int) (l : List Int) : Prop := ∃ v, QueV w F q most l v
section
variable {w w' : World} {F G S : Nat → Prop} {q : Nat} {most : Int} {l : List Int}
theorem QueAt.keeps (h : QueAt w F q most l) (k : Keeps S w w') (hS : ∀ i, F i → ¬ S i) : QueAt w' F q most l := by
  obtain ⟨v, h1, h2, h3, h4⟩ := h
  refine ⟨v, h1.keeps k (hS _ h3), ?_, h3, h4⟩
  refine ⟨h2.1, ?_⟩
  rcases h2.2 with h5 | ⟨g, cap, cur, hv, hg, hh, r⟩
  · exact .inl h5
  · have hlt : g < w.heap.size := by
      rcases Nat.lt_or_ge g w.heap.size with hlt | hge
      · exact hlt
      · rw [Array.getElem?_eq_none hge] at hh; cases hh
    exact .inr ⟨g, cap, cur, hv, hg, (k.block g hlt (hS g (h4 g (by rw [hv]; simp [Value.ownBlock])))).trans hh, r⟩
theorem QueAt.mono (h : QueAt w F q most l) (hG : ∀ i, F i → G i) : QueAt w G q most l := by
  obtain ⟨v, h1, h2, h3, h4⟩ := h
  exact ⟨v, h1, h2, hG _ h3, fun j hj => hG _ (h4 j hj)⟩
set_option maxRecDepth 100000 in
theorem qplace {v : Value} (h : QueV w F q most l v) (hl : l.length ≤ 4096) (x : Int) : Calls Tryz.prog 310 #[.pointer (some ⟨q, 0, none⟩), .int .i64 x] w fun e w' => ∃ r, e = .returned (.int .i64 r) ∧ IdxIs l x r ∧ w' = w := by
  obtain ⟨h1, h2, -, -⟩ := h
  obtain ⟨⟨c0, -⟩, -, -⟩ := h1.cellsQ
  have HI := Lib.hid (sidx_int_ w v l x l.length rfl (by omega) h2)
  clear h1 h2
  go_enter Tryz.func310, Tryz.ntmps310
  go_wp2_with fail
  refine HI.out.mono ?_
  rintro e w2 ⟨r, rfl, hr, hw⟩
  obtain rfl : w = w2 := hw.symm
  have HR := Lib.hid hr
  clear hr
  go_wp2_with fail
  go_ret
  exact ⟨_, rfl, HR.out, rfl⟩
end
end Go.Proofs.YtkmpdobojgiegaaGreatDoor

/-
  Who is at a console, plainly: who writes, who looks on, who waits. No program in sight.
-/
namespace Go.Proofs.YtkmpdobojgiegaaGreatDoor
open Go.RowKit

structure Mbr where
  id : Int
  lvl : Int
structure Sea where
  l : List Mbr
  most : Int
  wr : Int
  wait : List Int
abbrev ShiftP := Int × Int
def Sea.new (most : Int) : Sea := ⟨[], most, -1, []⟩
def levelS (s : Sea) (id : Int) : Int := match s.l.find? (fun m => decide (m.id = id)) with | some m => m.lvl | none => -1
def thereS (s : Sea) (id : Int) : Bool := s.l.any fun m => decide (m.id = id)
def comeS (s : Sea) (id lvl : Int) (call : Bool) : Sea × List ShiftP × Int :=
  if id < 0 then (s, [], 1) else if thereS s id then (s, [], 8) else if lvl < 1 then (s, [], 10) else if s.most ≤ s.l.length then (s, [], 6)
  else if call = true ∧ s.wr < 0 ∧ 2 ≤ lvl then ({ s with l := s.l ++ [⟨id, lvl⟩], wr := id }, [(id, 2)], 0)
  else ({ s with l := s.l ++ [⟨id, lvl⟩] }, [(id, 1)], 0)
def dropQ (l : List Int) (x : Int) : List Int := l.filter fun y => decide (y ≠ x)
def becomeS (s : Sea) (id : Int) : Sea × List ShiftP := ({ s with wait := dropQ s.wait id, wr := id }, (if 0 ≤ s.wr then [(s.wr, 1)] else []) ++ [(id, 2)])
def wantsS (s : Sea) (id : Int) : Int := if thereS s id then (if s.wr = id then 9 else if levelS s id < 2 then 10 else 0) else 7
def takeS (s : Sea) (id : Int) (force : Bool) : Sea × List ShiftP × Int :=
  if wantsS s id ≠ 0 then (s, [], wantsS s id)
  else if (force = true ∧ levelS s id < 3) ∨ (force = false ∧ 0 ≤ s.wr ∧ levelS s id ≤ levelS s s.wr) then (s, [], 10)
  else ((becomeS s id).1, (becomeS s id).2, 0)
def nextQ (s : Sea) : Sea × List ShiftP := match s.wait with | [] => ({ s with wr := -1 }, []) | x :: _ => becomeS { s with wr := -1 } x
def yieldS (s : Sea) (id : Int) : Sea × List ShiftP × Int :=
  if thereS s id then (if s.wr = id then ((nextQ s).1, (id, 1) :: (nextQ s).2, 0) else (s, [], 9)) else (s, [], 7)
def listS (s : Sea) : List Int := s.l.map Mbr.id
/-- what holds of who is there -/
structure SeaOk (s : Sea) : Prop where
  m1 : 1 ≤ s.most
  m2 : s.most ≤ 4096
  len : s.l.length ≤ s.most
  wlen : s.wait.length ≤ s.most
  ids : (s.l.map Mbr.id).Nodup
  pos : ∀ m ∈ s.l, 0 ≤ m.id ∧ m.id ≤ 9223372036854775807 ∧ 1 ≤ m.lvl ∧ m.lvl ≤ 9223372036854775807
  wids : s.wait.Nodup
  wsub : ∀ x ∈ s.wait, x ∈ s.l.map Mbr.id
  wr : s.wr = -1 ∨ s.wr ∈ s.l.map Mbr.id
  wnot : s.wr ∉ s.wait
theorem there_iff {s : Sea} {id : Int} : thereS s id = true ↔ id ∈ s.l.map Mbr.id := by
  unfold thereS
  rw [List.any_eq_true, List.mem_map]
  exact ⟨fun ⟨m, h1, h2⟩ => ⟨m, h1, of_decide_eq_true h2⟩, fun ⟨m, h1, h2⟩ => ⟨m, h1, decide_eq_true h2⟩⟩
theorem dropQ_mem {l : List Int} {x y : Int} : y ∈ dropQ l x ↔ y ∈ l ∧ y ≠ x := by unfold dropQ; simp
theorem dropQ_len (l : List Int) (x : Int) : (dropQ l x).length ≤ l.length := List.length_filter_le _ _
theorem dropQ_not {l : List Int} {x : Int} (h : x ∉ l) : dropQ l x = l := by
  unfold dropQ
  rw [List.filter_eq_self]
  intro y hy
  exact decide_eq_true (fun e => h (e ▸ hy))
section
variable {s : Sea}
theorem SeaOk.new {most : Int} (h : 1 ≤ most ∧ most ≤ 4096) : SeaOk (Sea.new most) := ⟨h.1, h.2, by show ((0 : Nat) : Int) ≤ most; omega, by show ((0 : Nat) : Int) ≤ most; omega, by simp [Sea.new], by simp [Sea.new], by simp [Sea.new], by simp [Sea.new], .inl rfl, by simp [Sea.new]⟩
theorem SeaOk.wr_pos (h : SeaOk s) : s.wr = -1 ∨ 0 ≤ s.wr := by
  rcases h.wr with e | e
  · exact .inl e
  · obtain ⟨m, h1, h2⟩ := List.mem_map.1 e
    exact .inr (by have := h.pos m h1; omega)
theorem SeaOk.become (h : SeaOk s) {id : Int} (hi : id ∈ s.l.map Mbr.id) : SeaOk (becomeS s id).1 := by
  refine ⟨h.m1, h.m2, h.len, ?_, h.ids, h.pos, h.wids.filter _, fun x hx => h.wsub x (dropQ_mem.1 hx).1, .inr hi, fun e => (dropQ_mem.1 e).2 rfl⟩
  have := dropQ_len s.wait id
  have := h.wlen
  show ((dropQ s.wait id).length : Int) ≤ s.most
  omega
theorem SeaOk.come (h : SeaOk s) (id lvl : Int) (call : Bool) (hi : id ≤ 9223372036854775807) (hl : lvl ≤ 9223372036854775807) : SeaOk (comeS s id lvl call).1 := by
  unfold comeS
  split
  · exact h
  · split
    · exact h
    · rename_i h0 ht
      split
      · exact h
      · split
        · exact h
        · rename_i h1 h2
          have hn : id ∉ s.l.map Mbr.id := fun e => ht (there_iff.2 e)
          have hids : ((s.l ++ [(⟨id, lvl⟩ : Mbr)]).map Mbr.id).Nodup := by
            rw [List.map_append, List.map_cons, List.map_nil, List.nodup_append]
            refine ⟨h.ids, by simp, fun a ha b hb e => ?_⟩
            rw [List.mem_singleton] at hb
            have hb : b = id := hb
            exact hn (by rw [← hb, ← e]; exact ha)
          have hpos : ∀ m ∈ s.l ++ [(⟨id, lvl⟩ : Mbr)], 0 ≤ m.id ∧ m.id ≤ 9223372036854775807 ∧ 1 ≤ m.lvl ∧ m.lvl ≤ 9223372036854775807 := fun m hm => by
            rcases List.mem_append.1 hm with hm | hm
            · exact h.pos m hm
            · rw [List.mem_singleton] at hm; subst hm; exact ⟨by show 0 ≤ id; omega, hi, by show 1 ≤ lvl; omega, hl⟩
          have hmem : ∀ x, x ∈ s.l.map Mbr.id → x ∈ (s.l ++ [(⟨id, lvl⟩ : Mbr)]).map Mbr.id := fun x hx => by rw [List.map_append]; exact List.mem_append.2 (.inl hx)
          have hlen : (((s.l ++ [(⟨id, lvl⟩ : Mbr)]).length : Nat) : Int) ≤ s.most := by rw [List.length_append]; simp only [List.length_cons, List.length_nil]; omega
          split
          · exact ⟨h.m1, h.m2, hlen, h.wlen, hids, hpos, h.wids, fun x hx => hmem x (h.wsub x hx), .inr (by simp), fun e => hn (h.wsub _ e)⟩
          · exact ⟨h.m1, h.m2, hlen, h.wlen, hids, hpos, h.wids, fun x hx => hmem x (h.wsub x hx), h.wr.imp (fun e => e) (hmem _), h.wnot⟩
theorem SeaOk.next (h : SeaOk { s with wr := -1 }) : SeaOk (nextQ s).1 := by
  unfold nextQ
  split
  · exact h
  · rename_i x l hw
    exact SeaOk.become (s := { s with wr := -1 }) h (h.wsub x (by show x ∈ s.wait; rw [hw]; simp))
theorem SeaOk.free (h : SeaOk s) : SeaOk { s with wr := -1 } :=
  ⟨h.m1, h.m2, h.len, h.wlen, h.ids, h.pos, h.wids, h.wsub, .inl rfl, fun e => by
    obtain ⟨m, h1, h2⟩ := List.mem_map.1 (h.wsub _ e)
    have := (h.pos m h1).1
    have h3 : m.id = -1 := h2
    omega⟩
theorem SeaOk.yield (h : SeaOk s) (id : Int) : SeaOk (yieldS s id).1 := by
  unfold yieldS
  split
  · split
    · exact h.free.next
    · exact h
  · exact h
theorem SeaOk.take (h : SeaOk s) (id : Int) (force : Bool) : SeaOk (takeS s id force).1 := by
  unfold takeS
  split
  · exact h
  · rename_i hw
    have hw : wantsS s id = 0 := by simpa using hw
    have ht : thereS s id = true := by
      unfold wantsS at hw
      split at hw
      · assumption
      · cases hw
    split
    · exact h
    · exact h.become (there_iff.1 ht)
end
end Go.Proofs.YtkmpdobojgiegaaGreatDoor

/-
  Who is at a console: one who goes out of a row in which each stands once. No program in sight.
-/
namespace Go.Proofs.YtkmpdobojgiegaaGreatDoor
open Go.RowKit

theorem erase_filter {α : Type} (p : α → Bool) : ∀ (l : List α) (k : Nat), (∃ a, l[k]? = some a ∧ p a = false) → (∀ j b, j ≠ k → l[j]? = some b → p b = true) → l.eraseIdx k = l.filter p
  | [], k, h, _ => by obtain ⟨a, h, -⟩ := h; simp at h
  | x :: l, 0, h, hr => by
    obtain ⟨a, h, hp⟩ := h
    have h : x = a := by simpa using h
    subst h
    rw [List.eraseIdx_cons_zero, List.filter_cons_of_neg (by simp [hp]), List.filter_eq_self.2]
    intro b hb
    obtain ⟨j, hj, e⟩ := List.mem_iff_getElem.1 hb
    exact hr (j + 1) b (by omega) (by rw [List.getElem?_cons_succ, List.getElem?_eq_getElem hj, e])
  | x :: l, k + 1, h, hr => by
    rw [List.eraseIdx_cons_succ, List.filter_cons_of_pos (hr 0 x (by omega) rfl), erase_filter p l k]
    · simpa using h
    · intro j b hj hb
      exact hr (j + 1) b (by omega) (by simpa using hb)
theorem dropq_at {l : List Int} {x : Int} {k : Nat} (hn : l.Nodup) (hk : l[k]? = some x) : l.eraseIdx k = dropQ l x := by
  refine erase_filter _ l k ⟨x, hk, by simp⟩ fun j b hj hb => decide_eq_true fun e => hj ?_
  have hl := (List.getElem?_eq_some_iff.1 hb).1
  exact (List.getElem?_inj hl hn).1 (by rw [hb, hk, e])
/-- r is where somebody stands, or -1 -/
def FindIs (l : List Mbr) (id r : Int) : Prop := (∃ (k : Nat) (m : Mbr), k < l.length ∧ r = (k : Int) ∧ l[k]? = some m ∧ m.id = id) ∨ (r = -1 ∧ id ∉ l.map Mbr.id)
theorem FindIs.there {s : Sea} {id : Int} {k : Nat} {m : Mbr} (h : s.l[k]? = some m) (hm : m.id = id) : thereS s id = true := there_iff.2 (List.mem_map.2 ⟨m, List.mem_of_getElem? h, hm⟩)
theorem not_there {s : Sea} {id : Int} (h : id ∉ s.l.map Mbr.id) : thereS s id = false := by
  cases hc : thereS s id with
  | false => rfl
  | true => exact absurd (there_iff.1 hc) h
end Go.Proofs.YtkmpdobojgiegaaGreatDoor

/-
  queue: a queue of numbers in memory: New, Drop, Take.
-/
namespace Go.Proofs.YtkmpdobojgiegaaGreatDoor
open Go.RowKit

section
variable {w w' : World} {F G S : Nat → Prop} {q : Nat} {most : Int} {l : List Int}
set_option maxRecDepth 100000 in
theorem qnew (w : World) (most : Int) (hm : 1 ≤ most ∧ most ≤ 4096) : Calls Tryz.prog 111 #[.int .i64 most] w fun e w' => e = .returned (.tuple #[.pointer (some ⟨w.heap.size, 0, none⟩), .int .i64 0]) ∧ QueAt w' (Ext (fun _ => False) w w') w.heap.size most [] ∧ Keeps (fun _ => False) w w' := by
  have h1 : ¬ most < 1 := by omega
  have h2 : ¬ (4096 : Int) < most := by omega
  clear hm
  go_enter Tryz.func111, Tryz.ntmps111
  go_wp2_with fail
  go_ret2
  refine ⟨rfl, ⟨_, Blk.new _ _ _, OwnS.none_, .inr ⟨Nat.le_refl _, by simp⟩, by simp [Value.ownBlock]⟩, by (repeat (first | (with_reducible assumption) | (with_reducible exact Keeps.refl _ _) | refine Keeps.drew ?_ | refine Keeps.drewN ?_ _ | refine Keeps.setCell ?_ (by simp) _ | refine Keeps.setRow ?_ (by simp) _ | refine Keeps.alloc ?_ _))⟩
set_option maxRecDepth 100000 in
theorem qnew_no (w : World) (most : Int) (hm : most < 1 ∨ 4096 < most) : Calls Tryz.prog 111 #[.int .i64 most] w fun e w' => e = .returned (.tuple #[.pointer none, .int .i64 2]) ∧ w' = w := by
  by_cases h1 : most < 1
  · clear hm
    go_enter Tryz.func111, Tryz.ntmps111
    go_wp2_with fail
    go_ret2
    exact ⟨rfl, rfl⟩
  · have h2 : (4096 : Int) < most := by omega
    clear hm
    go_enter Tryz.func111, Tryz.ntmps111
    go_wp2_with fail
    go_ret2
    exact ⟨rfl, rfl⟩
set_option maxRecDepth 100000 in
theorem qdrop (h : QueAt w F q most l) (hn : l.Nodup) (hl : l.length ≤ 4096) (x : Int) : Calls Tryz.prog 308 #[.pointer (some ⟨q, 0, none⟩), .int .i64 x] w fun e w' => e = .returned (.bool (decide (x ∈ l))) ∧ QueAt w' F q most (dropQ l x) ∧ Keeps F w w' := by
  obtain ⟨v, h⟩ := h
  have HP := Lib.hid (qplace h hl x)
  obtain ⟨h1, h2, h3, h4⟩ := h
  obtain ⟨⟨c0, -⟩, f0, -⟩ := h1.cellsQ
  have HB := Lib.hid h1
  have HV := Lib.hid h2
  have HF := Lib.hid h3
  have HG := Lib.hid h4
  have HN := Lib.hid hn
  have HL := Lib.hid hl
  clear h1 h2 h3 h4 hn hl
  go_enter Tryz.func308, Tryz.ntmps308
  go_wp2_with fail
  refine HP.out.mono ?_
  rintro e w2 ⟨r, rfl, hr, hw⟩
  obtain rfl : w = w2 := hw.symm
  rcases hr with ⟨k, hk, hrk, hx, -⟩ | ⟨hrk, hx⟩
  · have HX := Lib.hid hx
    have HK := Lib.hid hk
    have hge : ¬ r < 0 := by omega
    have hlo : 0 ≤ r := by omega
    have hhi : r ≤ 4096 := by have := HL.out; omega
    have HRK := Lib.hid hrk
    clear hx hk hrk
    go_wp2_with fail
    have hs := sdel_int w v l HV.out k HK.out
    rw [← HRK.out] at hs
    refine hs.mono ?_
    clear hs
    rintro e w3 ⟨v3, rfl, hO, hb3, k3⟩
    have hne : v.ownBlock ≠ some q := fun e => by obtain ⟨cs, hb⟩ := HV.out.ownBlk _ e; exact Blk.ne_ HB.out hb (by decide) rfl
    have hb2 := HB.out.keeps k3 hne
    obtain ⟨⟨d0, -⟩, g0, -⟩ := hb2.cellsQ
    have HB2 := Lib.hid hb2
    obtain ⟨a3, c3, ha3⟩ := hO.sl
    obtain ⟨n3, hn3⟩ : ∃ n3, n3 = (l.eraseIdx k).length := ⟨_, rfl⟩
    rw [← hn3] at ha3
    clear hn3
    subst ha3
    have HO := Lib.hid hO
    have HBB := Lib.hid hb3
    have HK3 := Lib.hid k3
    clear c0 f0 hO hb3 k3 hne hb2
    go_wp2_with fail
    go_ret
    rw [decide_eq_true (List.mem_of_getElem? HX.out)]
    have kE : Keeps (fun i => i = q) w3 (w3.setCell ⟨q, 0, none⟩ (.slice a3 n3 c3)) := (Keeps.refl (fun i => i = q) w3).setCell (p := ⟨q, 0, none⟩) (fun _ => rfl) _
    refine ⟨rfl, ⟨_, HB2.out.set_ 0 (.slice a3 n3 c3), ?_, HF.out, fun j hj => HG.out j (by rw [← HBB.out]; exact hj)⟩, (HK3.out.mono fun i _ hi => HG.out i hi).trans (kE.mono fun i _ e => by rw [e]; exact HF.out)⟩
    rw [← dropq_at HN.out HX.out]
    refine OwnS.keeps HO.out kE (fun i hi _ ⟨cs, hb⟩ e => Blk.ne_ hb HB2.out (by decide) e)
  · have hlt : r < 0 := by omega
    have HX := Lib.hid hx
    clear hx hrk
    go_wp2_with fail
    go_ret
    rw [decide_eq_false HX.out, dropQ_not HX.out]
    exact ⟨rfl, ⟨v, HB.out, HV.out, HF.out, HG.out⟩, Keeps.refl _ _⟩
end
end Go.Proofs.YtkmpdobojgiegaaGreatDoor
