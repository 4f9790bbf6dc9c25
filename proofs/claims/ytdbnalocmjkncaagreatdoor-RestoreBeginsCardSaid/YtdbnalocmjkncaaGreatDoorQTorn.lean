/-
  JournalTorn: its state, plainly: a journal, what was taken of it, and how many of these are sure.
-/
import Derived.Test.YtdbnalocmjkncaaGreatDoorQJourC
import Derived.Test.YtdbnalocmjkncaaGreatDoorQGensB
namespace Go.Proofs.YtdbnalocmjkncaaGreatDoor
open Go.RowKit Go.Maps
attribute [local instance] noRes

abbrev tLog : ByteArray := ⟨#[108, 111, 103]⟩
structure Torn (N0 A0 : Nat) (w wr : World) (s M jb : Nat) (most : Int) (k size i : Nat) (all : List Itm) (sure bad : Nat) (L : List SRep) (n : Nat) (rest : Bool) (lost : Nat) (gone : List Itm) (G : List ByteArray) (cur : Option (List Itm × Nat)) (v : Value) : Prop where
  jour : Jour w wr s M jb most bad L n tLog k size rest lost
  log : Log tLog k (L.map SRep.f) all sure gone G cur
  own : OwnI wr w.heap.size v all
  n_le : n ≤ N0 + 20 * i
  le : sure ≤ all.length ∧ all.length ≤ A0 + i
  ll : lost ≤ i
  lr : 0 < lost → rest = true
theorem tLog_named (i : Nat) (h : i ≤ 16) : namedP (genName tLog (i : Nat)) = true := by
  by_cases h0 : (i : Int) ≤ 0
  · rw [genName_zero h0]; decide
  · have hz2 := genName_size (base := tLog) (i := (i : Nat)) (by omega)
    have hl := genName_list (base := tLog) (i := (i : Nat)) (by omega)
    have hsz : ∀ b : ByteArray, b.size = b.data.toList.length := fun b => by simp
    have h3 : tLog.size = 3 := rfl
    refine namedP_ok ?_ (by omega) ?_
    · rw [hsz, hl, List.length_append, List.length_cons]; omega
    · rw [hl, List.all_append]
      have hb2 : tLog.data.toList.all okB = true := by decide
      rw [hb2, List.all_cons, show okB 46 = true from by decide, Bool.true_and, Bool.true_and, List.all_eq_true]
      intro c hc
      have h := decN_dig _ c hc
      unfold okB
      rw [decide_eq_true (by omega : 33 ≤ c.toNat), decide_eq_true (by omega : c.toNat ≤ 126), decide_eq_true (by omega : c.toNat ≠ 47)]; rfl
section
variable {N0 A0 : Nat} {w wr wx w' : World} {s M jb k size i sure bad n lost : Nat} {most : Int} {al gone : List Itm} {L : List SRep} {rest : Bool} {G : List ByteArray} {cur : Option (List Itm × Nat)} {v : Value}
theorem Torn.same (h : Torn N0 A0 w wr s M jb most k size i al sure bad L n rest lost gone G cur v) (kk : Keeps (fun _ => False) wr wx) : Torn N0 A0 w wx s M jb most k size i al sure bad L n rest lost gone G cur v :=
  ⟨h.jour.same kk, h.log, OwnS.keeps (S := fun _ => False) h.own kk (fun _ _ _ _ => id), h.n_le, h.le, h.ll, h.lr⟩
theorem Torn.keeps (h : Torn N0 A0 w wr s M jb most k size i al sure bad L n rest lost gone G cur v) : Keeps (fun _ => False) w wr := h.jour.sto.keeps
theorem Torn.next (h : Torn N0 A0 w wr s M jb most k size i al sure bad L n rest lost gone G cur v) : Torn N0 A0 w wr s M jb most k size (i + 1) al sure bad L n rest lost gone G cur v :=
  ⟨h.jour, h.log, h.own, by have := h.n_le; omega, ⟨h.le.1, by have := h.le.2; omega⟩, by have := h.ll; omega, h.lr⟩
theorem ownI_acts {F : Nat → Prop} (h : OwnI wr w.heap.size v al) (kk : Keeps (fun j => F j ∧ JT wr j) wr wx) : OwnI wx w.heap.size v al :=
  OwnS.keeps h kk fun j _ _ hb hS => by
    obtain ⟨cs, hb⟩ := hb
    exact hS.2.not hb (by decide) (by decide) (by decide) (by decide)
/-- a block of an item is written: a journal stays -/
theorem Jour.beside {w0 : World} {base : ByteArray} (h : Jour w0 wr s M jb most bad L n base k size rest lost) {S : Nat → Prop} (kk : Keeps S wr wx) (hS : ∀ j, S j → w0.heap.size ≤ j ∧ ∃ cs, Blk wr j 43 cs) : Jour w0 wx s M jb most bad L n base k size rest lost :=
  ⟨h.sto.beside kk (fun j hj => ⟨(hS j hj).1, _, (hS j hj).2.choose, (hS j hj).2.choose_spec, by decide, by decide, by decide⟩),
    h.blk.keeps kk (fun hj => by obtain ⟨cs, hb⟩ := (hS jb hj).2; exact hb.ne_ h.blk (by decide) rfl), h.lo, h.k1, h.sz, h.bz, h.ll⟩
/-- a sync that was told to have gone well: all are sure -/
theorem Torn.sync (h : Torn N0 A0 w wr s M jb most k size i al sure bad L n rest lost gone G cur v) {L' : List SRep} {n' : Nat} (hx : (syncP bad (L.map SRep.f) tLog).1 = 0 ∨ (syncP bad (L.map SRep.f) tLog).1 = 7) (hJ : Jour w wx s M jb most (syncP bad (L.map SRep.f) tLog).2.1 L' n' tLog k size false lost) (hl : L'.map SRep.f = (syncP bad (L.map SRep.f) tLog).2.2) (hn : n' ≤ n + 19) (h0 : rest = false)
    (kk : Keeps (fun j => w.heap.size ≤ j ∧ JT wr j) wr wx) : ∃ cur', Torn N0 A0 w wx s M jb most k size (i + 1) al al.length (syncP bad (L.map SRep.f) tLog).2.1 L' n' false lost gone G cur' v := by
  obtain ⟨cur', hL, -, -⟩ := h.log.sync hx
  refine ⟨cur', hJ, by rw [hl]; exact hL, ownI_acts h.own kk, by have := h.n_le; omega, ⟨Nat.le_refl _, by have := h.le.2; omega⟩, by have := h.ll; omega, fun hp => ?_⟩
  have := h.lr hp
  rw [h0] at this
  cases this
/-- .. or that failed -/
theorem Torn.fell (h : Torn N0 A0 w wr s M jb most k size i al sure bad L n rest lost gone G cur v) {L' : List SRep} {n' : Nat} (hx : ¬ ((syncP bad (L.map SRep.f) tLog).1 = 0 ∨ (syncP bad (L.map SRep.f) tLog).1 = 7)) (hJ : Jour w wx s M jb most (syncP bad (L.map SRep.f) tLog).2.1 L' n' tLog k size true lost) (hl : L'.map SRep.f = (syncP bad (L.map SRep.f) tLog).2.2) (hn : n' ≤ n + 19)
    (kk : Keeps (fun j => w.heap.size ≤ j ∧ JT wr j) wr wx) : Torn N0 A0 w wx s M jb most k size (i + 1) al sure (syncP bad (L.map SRep.f) tLog).2.1 L' n' true lost gone G cur v := by
  refine ⟨hJ, ?_, ownI_acts h.own kk, by have := h.n_le; omega, ⟨h.le.1, by have := h.le.2; omega⟩, by have := h.ll; omega, fun _ => rfl⟩
  rw [hl, sync_no (fun h0 => hx (.inl h0))]
  exact h.log
/-- nothing of the log's files has changed -/
theorem Torn.idle (h : Torn N0 A0 w wr s M jb most k size i al sure bad L n rest lost gone G cur v) {L' : List SRep} {n' bad' lost' : Nat} {rest' : Bool} (hJ : Jour w wx s M jb most bad' L' n' tLog k size rest' lost') (hl : L'.map SRep.f = L.map SRep.f) (hn : n' ≤ n + 19) (hll : lost' ≤ lost + 1) (hlr : 0 < lost' → rest' = true)
    (kk : Keeps (fun j => w.heap.size ≤ j ∧ JT wr j) wr wx) : Torn N0 A0 w wx s M jb most k size (i + 1) al sure bad' L' n' rest' lost' gone G cur v :=
  ⟨hJ, by rw [hl]; exact h.log, ownI_acts h.own kk, by have := h.n_le; omega, ⟨h.le.1, by have := h.le.2; omega⟩, by have := h.ll; omega, hlr⟩
/-- an item was put, or was not: what is there then (the law's own row is not yet longer) -/
theorem Torn.put (h : Torn N0 A0 w wr s M jb most k size i al sure bad L n rest lost gone G cur v) {x : Itm} (hx : x.ok) (R : Int × Nat × List SFile) (hR : R = putP most tLog k size bad (L.map SRep.f) (str (recP x))) :
    (R.1 = 0 ∧ ∃ gone' G' cur', Log tLog k R.2.2 (al ++ [x]) sure gone' G' cur') ∨ (R.1 ≠ 0 ∧ ∃ gone' G' cur', Log tLog k R.2.2 al sure gone' G' cur') :=
  h.log.put tLog_named h.jour.k1.2 h.le.1 hx R hR
/-- an item was taken, and the law's row is longer by it -/
theorem Torn.took (h : Torn N0 A0 w wr s M jb most k size i al sure bad L n rest lost gone G cur v) {x : Itm} {bad' n' lost' : Nat} {L' : List SRep} {gone' : List Itm} {G' : List ByteArray} {cur' : Option (List Itm × Nat)} {v' : Value}
    (hJ : Jour w wx s M jb most bad' L' n' tLog k size false lost') (hL : Log tLog k (L'.map SRep.f) (al ++ [x]) sure gone' G' cur') (hO : OwnI wx w.heap.size v' (al ++ [x])) (hn : n' ≤ n + 19) (hl0 : lost' = 0) : Torn N0 A0 w wx s M jb most k size (i + 1) (al ++ [x]) sure bad' L' n' false lost' gone' G' cur' v' :=
  ⟨hJ, hL, hO, by have := h.n_le; omega, by have := h.le; rw [List.length_append]; simp only [List.length_cons, List.length_nil]; omega, by omega, fun hp => by omega⟩
/-- .. was not taken, whatever became of the files -/
theorem Torn.lost_ (h : Torn N0 A0 w wr s M jb most k size i al sure bad L n rest lost gone G cur v) {bad' n' lost' : Nat} {L' : List SRep} {gone' : List Itm} {G' : List ByteArray} {cur' : Option (List Itm × Nat)}
    (hJ : Jour w wx s M jb most bad' L' n' tLog k size true lost') (hL : Log tLog k (L'.map SRep.f) al sure gone' G' cur') (hn : n' ≤ n + 19) (hll : lost' ≤ lost + 1)
    (kk : Keeps (fun j => w.heap.size ≤ j ∧ JT wr j) wr wx) : Torn N0 A0 w wx s M jb most k size (i + 1) al sure bad' L' n' true lost' gone' G' cur' v :=
  ⟨hJ, hL, ownI_acts h.own kk, by have := h.n_le; omega, ⟨h.le.1, by have := h.le.2; omega⟩, by have := h.ll; omega, fun _ => rfl⟩
/-- what is read of all generations -/
theorem Torn.read (h : Torn N0 A0 w wr s M jb most k size i al sure bad L n rest lost gone G cur v) : al = gone ++ loadP (allP (L.map SRep.f) tLog (heldP k)) := by
  rw [heldP_is h.jour.k1]
  exact h.log.load
theorem sizes_all (hS : Sto w wr s M most bad L n) (base : ByteArray) (q : Nat) : ∀ d ∈ allP (L.map SRep.f) base q, d.size ≤ 16777216 := by
  intro d hd
  unfold allP at hd
  obtain ⟨j, _, hj⟩ := List.mem_filterMap.1 hd
  unfold genF at hj
  cases hg : getG SFile.name (genName base j) (L.map SRep.f) with
  | none => rw [hg] at hj; cases hj
  | some f =>
    rw [hg] at hj
    obtain rfl := Option.some.inj hj
    obtain ⟨r, hr, e⟩ := List.mem_map.1 (getG_some hg).1
    rw [← e]
    exact (hS.size hr).2.1
theorem OwnI.slat_ {B : Nat} {a : Option Addr} {m c : Nat} {xs : List Itm} (h : OwnI wr B (.slice a m c) xs) : m = xs.length ∧ SlAt itmR 3 wr a xs.length xs ∧ xs.length ≤ c ∧ c ≤ maxLen := by
  obtain ⟨a', c', hv, hs⟩ := h.slat
  obtain ⟨a2, c2, hv2, h1, h2, -, -⟩ := OwnS.shape h itmR_len
  injection hv with e1 e2 e3
  injection hv2 with f1 f2 f3
  subst e1 e2 f3
  exact ⟨rfl, hs, h1, h2⟩
theorem drop_load {all gone l rest : List Itm} (h : all = gone ++ (l ++ rest)) : gone.length + l.length ≤ all.length ∧ (all.drop gone.length).take l.length = l := by
  subst h
  constructor
  · simp only [List.length_append]; omega
  · rw [List.drop_left, List.take_left]
end
end Go.Proofs.YtdbnalocmjkncaaGreatDoor
