/-
  law11: a store while acts go on, its acts in few words; the document's list beside it.
-/
import Derived.Test.YtdbnalocmjkncaaGreatDoorQFitA
import Derived.Test.YtdbnalocmjkncaaGreatDoorQStoR
import Derived.Deep.Fields
import Derived.Test.YtdbnalocmjkncaaGreatDoorQDocG
namespace Go.Proofs.YtdbnalocmjkncaaGreatDoor
open Go.RowKit Go.Maps

/-- blocks that are somebody else's: no store takes or writes them -/
class Res where
  R : Nat → Prop
/-- nobody else's -/
@[reducible] def noRes : Res := ⟨fun _ => False⟩
/-- the kinds of blocks that a store is made of, and not somebody else's -/
def StR [Res] (w : World) (i : Nat) : Prop := ¬ Res.R i ∧ StT w i
structure Sto [Res] (w0 w : World) (s M : Nat) (most : Int) (bad : Nat) (L : List SRep) (n : Nat) : Prop where
  ety : Ety w0
  keeps : Keeps (fun _ => False) w0 w
  store : StoreAt w (fun i => w0.heap.size ≤ i ∧ ¬ Res.R i) s most bad M L
  res : ∀ i, Res.R i → i < w.heap.size
  fit : Fit most (L.map SRep.f)
  len : L.length ≤ n
  hn : n ≤ 1048576
  hb : bad ≤ 9223372036854775807
  m1 : 1 ≤ most
  m2 : most ≤ 16777216

section
variable {w0 w w' : World} {s M bad n : Nat} {most : Int} {L : List SRep}
theorem ety_keeps {S : Nat → Prop} (h : Ety w) (k : Keeps S w w') (hS : ∀ i, i < w.heap.size → ¬ S i) : Ety w' := by
  unfold Ety at h ⊢
  have hlt := block_lt_of_cell h
  rw [World.cell?_of_block (w := w) (k.block _ hlt (hS _ hlt))]
  exact h
variable [Res]
theorem StR.not {i : Nat} {t : TypeId} {cs : Array Value} (h : StR w i) (hb : Blk w i t cs) (h1 : t ≠ 81) (h2 : t ≠ 84) (h3 : t ≠ 5) : False := h.2.not hb h1 h2 h3
theorem StoreAt.shrinkR {F : Nat → Prop} (h : StoreAt w (fun i => F i ∧ ¬ Res.R i) s most bad M L) : StoreAt w (fun i => F i ∧ StR w i) s most bad M L := h.shrink.mono fun _ hi => ⟨hi.1.1, hi.1.2, hi.2⟩
theorem Sto.same (h : Sto w0 w s M most bad L n) (k : Keeps (fun _ => False) w w') : Sto w0 w' s M most bad L n :=
  { h with keeps := h.keeps.trans k, store := h.store.keeps k (fun _ _ => id), res := fun i hi => Nat.lt_of_lt_of_le (h.res i hi) k.size }
theorem Sto.etyw (h : Sto w0 w s M most bad L n) : Ety w := ety_keeps h.ety h.keeps (fun _ _ => id)
theorem Sto.size (h : Sto w0 w s M most bad L n) {r : SRep} (hr : r ∈ L) : r.f.sure ≤ r.f.data.size ∧ r.f.data.size ≤ 16777216 ∧ r.f.name.size ≤ 64 := by
  have hm : r.f ∈ L.map SRep.f := List.mem_map.2 ⟨r, hr, rfl⟩
  have h1 := h.fit.each _ hm
  have h2 := totF_mem hm
  have h3 := h.fit.fit
  have h4 := h.m2
  exact ⟨h1.1, by omega, (namedP_size h1.2).2⟩
theorem Sto.tot (h : Sto w0 w s M most bad L n) : (totL L : Int) ≤ most := by have := h.fit.fit; rwa [tot_f] at this
theorem Sto.rise (h : Sto w0 w s M most bad L n) : Rise SFile.name (L.map SRep.f) := by
  have := h.store.rise
  unfold Rise at this ⊢
  rw [List.pairwise_map]
  exact this
theorem Sto.doc {v : Value} {l : List SFile} (hd : DocL w v l) {F : Nat → Prop} (k : Keeps (fun i => F i ∧ StR w i) w w') : DocL w' v l :=
  OwnS.keeps hd k (fun i _ _ ⟨_, hb⟩ e => e.2.not hb (by decide) (by decide) (by decide))
/-- a block of another kind stays -/
theorem Blk.other {F : Nat → Prop} {g : Nat} {t : TypeId} {cs : Array Value} (hb : Blk w g t cs) (k : Keeps (fun i => F i ∧ StR w i) w w') (h1 : t ≠ 81) (h2 : t ≠ 84) (h3 : t ≠ 5) : Blk w' g t cs :=
  hb.keeps k fun e => e.2.not hb h1 h2 h3
/-- a block of another kind is written: the store stays -/
theorem Sto.beside (h : Sto w0 w s M most bad L n) {S : Nat → Prop} (k : Keeps S w w') (hS : ∀ i, S i → w0.heap.size ≤ i ∧ ∃ t cs, Blk w i t cs ∧ t ≠ 81 ∧ t ≠ 84 ∧ t ≠ 5) : Sto w0 w' s M most bad L n :=
  { h with
    keeps := h.keeps.and_ k fun i hi hh => by have := (hS i hh).1; have := h.keeps.size; omega
    store := (h.store.shrinkR.keeps k fun i hi hh => by obtain ⟨_, t, cs, hb, h1, h2, h3⟩ := hS i hh; exact hi.2.not hb h1 h2 h3).mono fun i hi => ⟨hi.1, hi.2.1⟩
    res := fun i hi => Nat.lt_of_lt_of_le (h.res i hi) k.size }
/-- behind an act -/
def Done (w0 w : World) (s M : Nat) (most : Int) (n : Nat) (x : Int × Nat × List SFile) (e : Ending) (w' : World) : Prop :=
  ∃ v L, e = .returned v ∧ ErrV w' x.1 v ∧ Sto w0 w' s M most x.2.1 L (n + 1) ∧ L.map SRep.f = x.2.2 ∧ Keeps (fun i => w0.heap.size ≤ i ∧ StR w i) w w'
theorem Sto.after (h : Sto w0 w s M most bad L n) (hn : n < 1048576) {x : Int × Nat × List SFile} {e : Ending} (ha : After w (fun i => w0.heap.size ≤ i ∧ StR w i) s most M x e w') (hl : Left most bad (L.map SRep.f) x) : Done w0 w s M most n x e w' := by
  obtain ⟨v, L', rfl, he, hs, hm, k⟩ := ha
  have hlo := h.keeps.size
  refine ⟨v, L', rfl, he, ⟨h.ety, h.keeps.and_ k (fun i hi hh => by have := hh.1; omega), hs.mono (fun i hi => ?_), fun i hi => Nat.lt_of_lt_of_le (h.res i hi) k.size, by rw [hm]; exact hl.1, ?_, hn, Nat.le_trans hl.2.1 h.hb, h.m1, h.m2⟩, hm, k⟩
  · rcases hi with hi | hi
    · exact ⟨hi.1, hi.2.1⟩
    · exact ⟨by omega, fun hR => by have := h.res i hR; omega⟩
  · have h1 := hl.2.2
    rw [← hm, List.length_map, List.length_map] at h1
    have := h.len
    omega
theorem ssync (h : Sto w0 w s M most bad L n) (hn : n < 1048576) (nm : ByteArray) : Calls Tryz.prog 32 #[.pointer (some ⟨s, 0, none⟩), .string nm] w (Done w0 w s M most n (syncP bad (L.map SRep.f) nm)) :=
  (sync_any h.store.shrinkR nm h.hb).mono fun _ _ ha => h.after hn ha (h.fit.sync h.rise bad nm)
theorem sremove (h : Sto w0 w s M most bad L n) (hn : n < 1048576) (nm : ByteArray) : Calls Tryz.prog 85 #[.pointer (some ⟨s, 0, none⟩), .string nm] w (Done w0 w s M most n (removeP bad (L.map SRep.f) nm)) :=
  (remove_any h.store.shrinkR nm h.hb).mono fun _ _ ha => h.after hn ha (h.fit.remove h.rise bad nm)
theorem srename (h : Sto w0 w s M most bad L n) (hn : n < 1048576) (nm nt : ByteArray) : Calls Tryz.prog 87 #[.pointer (some ⟨s, 0, none⟩), .string nm, .string nt] w (Done w0 w s M most n (renameP bad (L.map SRep.f) nm nt)) :=
  (rename_any h.store.shrinkR nm nt h.hb (by have := h.len; omega)).mono fun _ _ ha => h.after hn ha (h.fit.rename h.rise bad nm nt)
theorem sappend (h : Sto w0 w s M most bad L n) (hn : n < 1048576) (nm b : ByteArray) (hb : b.size ≤ 17179869184) : Calls Tryz.prog 29 #[.pointer (some ⟨s, 0, none⟩), .string nm, .string b] w (Done w0 w s M most n (appendP most bad (L.map SRep.f) nm b)) :=
  (append_any h.store.shrinkR nm b h.hb (by have := h.len; omega) h.m1 h.m2 h.tot hb).mono fun _ _ ha => h.after hn ha (h.fit.append h.rise bad nm b)
/-- behind a call that changes it and tells no error -/
def Done2 (w0 w : World) (s M : Nat) (most : Int) (n bad : Nat) (l : List SFile) (e : Ending) (w' : World) : Prop :=
  ∃ L, e = .returned (.tuple #[]) ∧ Sto w0 w' s M most bad L n ∧ L.map SRep.f = l ∧ Keeps (fun i => w0.heap.size ≤ i ∧ StR w i) w w'
theorem sfail (h : Sto w0 w s M most bad L n) (k : Int) (hk : k ≤ 9223372036854775807) : Calls Tryz.prog 9 #[.pointer (some ⟨s, 0, none⟩), .int .i64 k] w (Done2 w0 w s M most n k.toNat (L.map SRep.f)) :=
  (fail_any h.store.shrinkR k).mono fun e w' ⟨he, hs, kk⟩ => by
    have hlo := h.keeps.size
    have k2 : Keeps (fun i => w0.heap.size ≤ i ∧ StR w i) w w' := kk.mono fun i _ e => by rw [e]; exact ⟨h.store.fs.1, h.store.fs.2, .inl ⟨_, h.store.top⟩⟩
    exact ⟨L, he, ⟨h.ety, h.keeps.and_ k2 (fun i hi hh => by have := hh.1; omega), hs.mono fun i hi => ⟨hi.1, hi.2.1⟩, fun i hi => Nat.lt_of_lt_of_le (h.res i hi) kk.size, h.fit, h.len, h.hn, by omega, h.m1, h.m2⟩, rfl, k2⟩
theorem scrash2 (h : Sto w0 w s M most bad L n) (keep : List Int) (a : Option Addr) (m c : Nat) (hk2 : ∀ W, Keeps (fun i => w0.heap.size ≤ i ∧ StR w i) w W → SlAt intR 1 W a m keep) (hkb : ∀ k ∈ keep, -9223372036854775808 ≤ k ∧ k ≤ 9223372036854775807) (hm : m ≤ 4611686018427387904) :
    Calls Tryz.prog 39 #[.pointer (some ⟨s, 0, none⟩), .slice a m c] w (Done2 w0 w s M most n 0 (crashP keep (L.map SRep.f))) := by
  have hlo := h.keeps.size
  refine (crash_any h.store.shrinkR (by have := h.len; have := h.hn; omega) (fun r hr => by have := h.size hr; unfold maxLen; omega) keep a m c hk2 hkb hm).mono ?_
  rintro e w' ⟨rfl, ⟨L', hs, hl⟩, k⟩
  have hlen : L'.length = L.length := by
    have := congrArg List.length hl
    rw [crash_len, List.length_map, List.length_map] at this
    exact this
  exact ⟨L', rfl, ⟨h.ety, h.keeps.and_ k (fun i hi hh => by have := hh.1; omega), hs.mono fun i hi => ⟨hi.1, hi.2.1⟩, fun i hi => Nat.lt_of_lt_of_le (h.res i hi) k.size, by rw [hl]; exact h.fit.crash keep, by rw [hlen]; exact h.len, h.hn, by omega, h.m1, h.m2⟩, hl, k⟩
theorem scrash (h : Sto w0 w s M most bad L n) (keep : List Int) (a : Option Addr) (m c : Nat) (hk : SlAt intR 1 w0 a m keep) (hkb : ∀ k ∈ keep, -9223372036854775808 ≤ k ∧ k ≤ 9223372036854775807) (hm : m ≤ 4611686018427387904) :
    Calls Tryz.prog 39 #[.pointer (some ⟨s, 0, none⟩), .slice a m c] w (Done2 w0 w s M most n 0 (crashP keep (L.map SRep.f))) :=
  scrash2 h keep a m c (fun W kk => hk.keeps (h.keeps.and_ (S := fun _ => False) kk (fun i hi hh => by have := hh.1; omega)) (fun _ _ => id)) hkb hm
theorem sl_one {w w' : World} {F : Nat → Prop} {g : Nat} {k : Int} (hb : Blk w g 3 #[.int .i64 k]) (kk : Keeps (fun i => F i ∧ StR w i) w w') : SlAt intR 1 w' (some ⟨g, 0, none⟩) 1 [k] := by
  have hb' := hb.other kk (by decide) (by decide) (by decide)
  refine ⟨rfl, fun _ => ⟨g, 0, rfl, hb'.lt, fun i x j v hi hj => ?_⟩⟩
  match i, hi with
  | 0, hi =>
    match j, hj with
    | 0, hj =>
      simp at hi
      subst hi
      simp [intR] at hj
      subst hj
      exact hb'.cell 0
    | j + 1, hj => simp [intR] at hj
  | i + 1, hi => simp at hi
end
end Go.Proofs.YtdbnalocmjkncaaGreatDoor
