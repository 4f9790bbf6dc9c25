/-
  JournalLost: its state, plainly: a journal, what was taken of it, how many were refused, and how many of these were told.
-/
import Derived.Test.YtfbdpmeelejdhaaQTorn
import Derived.Test.YtfbdpmeelejdhaaQDigB
namespace Go.Proofs.Ytfbdpmeelejdhaa
open Go.RowKit Go.Maps

/-- how many an item tells to be lost -/
def gapW (x : Itm) : Nat := if x.kind = 3 then (valI (x.body.data.toList.take 14)).toNat else 0
def gapSum (l : List Itm) : Nat := (l.map gapW).sum
theorem gapSum_snoc (l : List Itm) (x : Itm) : gapSum (l ++ [x]) = gapSum l + gapW x := by unfold gapSum; simp
theorem gapSum_le (l k : List Itm) : gapSum l ≤ gapSum (l ++ k) := by unfold gapSum; simp
theorem gapW_gap {now : Int} {m : Nat} (h : m ≤ 1048576) : gapW (gapI now m) = m := by
  unfold gapW gapI
  simp only [if_true]
  rw [str_list, (tick_dec (n := m) (by omega)).2]
  rfl
theorem gapW_fine (x : Itm) : gapW (fineI x) = 0 := by
  unfold gapW
  rw [if_neg]
  have h := Int.tmod_lt_of_pos x.kind (show (0 : Int) < 2 by omega)
  show ¬ 1 + max 0 (x.kind.tmod 2) = 3
  omega
/-- an item that tells how many were lost tells a number -/
def GapOk (x : Itm) : Prop := x.kind = 3 → ∃ m : Nat, m ≤ 1048576 ∧ x.body = str (dec m)
theorem gapOk_fine (x : Itm) : GapOk (fineI x) := fun h3 => by
  have h := Int.tmod_lt_of_pos x.kind (show (0 : Int) < 2 by omega)
  have h3 : 1 + max 0 (x.kind.tmod 2) = 3 := h3
  omega
theorem gapOk_gap {now : Int} {m : Nat} (h : m ≤ 1048576) : GapOk (gapI now m) := fun _ => ⟨m, h, rfl⟩
structure Lst (w wr : World) (s M jb : Nat) (most : Int) (k size i : Nat) (al : List Itm) (bad : Nat) (L : List SRep) (n : Nat) (rest : Bool) (lost : Nat) (gone : List Itm) (G : List (List Itm)) (cur : Option (List Itm × Nat)) (refused told : Nat) : Prop where
  jour : Jour w wr s M jb most bad L n tLog k size rest lost
  log : Log tLog k (L.map SRep.f) al 0 gone G cur
  n_le : n ≤ 20 * i
  le : al.length ≤ i
  lr : 0 < lost → rest = true
  told_ : told = gapSum al
  ref : refused = told + lost ∧ refused ≤ i
  gaps : ∀ x ∈ al, GapOk x
section
variable {w wr wx w' : World} {s M jb k size i bad n lost refused told : Nat} {most : Int} {al gone : List Itm} {L : List SRep} {rest : Bool} {G : List (List Itm)} {cur : Option (List Itm × Nat)}
theorem Lst.same (h : Lst w wr s M jb most k size i al bad L n rest lost gone G cur refused told) (kk : Keeps (fun _ => False) wr wx) : Lst w wx s M jb most k size i al bad L n rest lost gone G cur refused told :=
  ⟨h.jour.same kk, h.log, h.n_le, h.le, h.lr, h.told_, h.ref, h.gaps⟩
theorem Lst.sync (h : Lst w wr s M jb most k size i al bad L n rest lost gone G cur refused told) {L' : List SRep} {n' : Nat} (hx : (syncP bad (L.map SRep.f) tLog).1 = 0 ∨ (syncP bad (L.map SRep.f) tLog).1 = 7) (hJ : Jour w wx s M jb most (syncP bad (L.map SRep.f) tLog).2.1 L' n' tLog k size false lost) (hl : L'.map SRep.f = (syncP bad (L.map SRep.f) tLog).2.2) (hn : n' ≤ n + 19) (h0 : rest = false) :
    ∃ cur', Lst w wx s M jb most k size (i + 1) al (syncP bad (L.map SRep.f) tLog).2.1 L' n' false lost gone G cur' refused told := by
  obtain ⟨cur', hL, -, -⟩ := h.log.sync hx
  refine ⟨cur', hJ, by rw [hl]; exact hL.mono (Nat.zero_le _), by have := h.n_le; omega, by have := h.le; omega, fun hp => ?_, h.told_, by have := h.ref; omega, h.gaps⟩
  have := h.lr hp
  rw [h0] at this
  cases this
theorem Lst.fell (h : Lst w wr s M jb most k size i al bad L n rest lost gone G cur refused told) {L' : List SRep} {n' : Nat} (hx : ¬ ((syncP bad (L.map SRep.f) tLog).1 = 0 ∨ (syncP bad (L.map SRep.f) tLog).1 = 7)) (hJ : Jour w wx s M jb most (syncP bad (L.map SRep.f) tLog).2.1 L' n' tLog k size true lost) (hl : L'.map SRep.f = (syncP bad (L.map SRep.f) tLog).2.2) (hn : n' ≤ n + 19) :
    Lst w wx s M jb most k size (i + 1) al (syncP bad (L.map SRep.f) tLog).2.1 L' n' true lost gone G cur refused told := by
  refine ⟨hJ, ?_, by have := h.n_le; omega, by have := h.le; omega, fun _ => rfl, h.told_, by have := h.ref; omega, h.gaps⟩
  rw [hl, Go.Proofs.Ytfbdpmeelejdhaa.sync_no (fun h0 => hx (.inl h0))]
  exact h.log
/-- nothing of the log's files has changed -/
theorem Lst.idle (h : Lst w wr s M jb most k size i al bad L n rest lost gone G cur refused told) {L' : List SRep} {n' bad' : Nat} {rest' : Bool} (hJ : Jour w wx s M jb most bad' L' n' tLog k size rest' lost) (hl : L'.map SRep.f = L.map SRep.f) (hn : n' ≤ n + 19) (hlr : 0 < lost → rest' = true) :
    Lst w wx s M jb most k size (i + 1) al bad' L' n' rest' lost gone G cur refused told :=
  ⟨hJ, by rw [hl]; exact h.log, by have := h.n_le; omega, by have := h.le; omega, hlr, h.told_, by have := h.ref; omega, h.gaps⟩
theorem Lst.put (h : Lst w wr s M jb most k size i al bad L n rest lost gone G cur refused told) {x : Itm} (hx : x.ok) (R : Int × Nat × List SFile) (hR : R = putP most tLog k size bad (L.map SRep.f) (str (recP x))) :
    (R.1 = 0 ∧ ∃ gone' G' cur', Log tLog k R.2.2 (al ++ [x]) 0 gone' G' cur') ∨ (R.1 ≠ 0 ∧ ∃ gone' G' cur', Log tLog k R.2.2 al 0 gone' G' cur') :=
  h.log.put tLog_named h.jour.k1.2 (Nat.zero_le _) hx R hR
/-- an item was taken -/
theorem Lst.took (h : Lst w wr s M jb most k size i al bad L n rest lost gone G cur refused told) {x : Itm} {bad' n' : Nat} {L' : List SRep} {gone' : List Itm} {G' : List (List Itm)} {cur' : Option (List Itm × Nat)}
    (hJ : Jour w wx s M jb most bad' L' n' tLog k size false 0) (hL : Log tLog k (L'.map SRep.f) (al ++ [x]) 0 gone' G' cur') (hn : n' ≤ n + 19) (hw : gapW x = lost) (hg : GapOk x) : Lst w wx s M jb most k size (i + 1) (al ++ [x]) bad' L' n' false 0 gone' G' cur' refused (told + lost) :=
  ⟨hJ, hL, by have := h.n_le; omega, by have := h.le; rw [List.length_append]; simp only [List.length_cons, List.length_nil]; omega, fun hp => by omega, by rw [gapSum_snoc, ← h.told_, hw], by have := h.ref; omega, fun y hy => by
    rcases List.mem_append.1 hy with hy | hy
    · exact h.gaps y hy
    · rw [List.mem_singleton] at hy; rw [hy]; exact hg⟩
/-- .. was not taken, whatever became of the files: it is refused, and counted -/
theorem Lst.lost_ (h : Lst w wr s M jb most k size i al bad L n rest lost gone G cur refused told) {bad' n' : Nat} {L' : List SRep} {gone' : List Itm} {G' : List (List Itm)} {cur' : Option (List Itm × Nat)}
    (hJ : Jour w wx s M jb most bad' L' n' tLog k size true (lost + 1)) (hL : Log tLog k (L'.map SRep.f) al 0 gone' G' cur') (hn : n' ≤ n + 19) : Lst w wx s M jb most k size (i + 1) al bad' L' n' true (lost + 1) gone' G' cur' (refused + 1) told :=
  ⟨hJ, hL, by have := h.n_le; omega, by have := h.le; omega, fun _ => rfl, h.told_, by have := h.ref; omega, h.gaps⟩
/-- what is told was not taken, whatever became of the files: nothing is refused -/
theorem Lst.held (h : Lst w wr s M jb most k size i al bad L n rest lost gone G cur refused told) {bad' n' : Nat} {L' : List SRep} {gone' : List Itm} {G' : List (List Itm)} {cur' : Option (List Itm × Nat)}
    (hJ : Jour w wx s M jb most bad' L' n' tLog k size true lost) (hL : Log tLog k (L'.map SRep.f) al 0 gone' G' cur') (hn : n' ≤ n + 19) : Lst w wx s M jb most k size (i + 1) al bad' L' n' true lost gone' G' cur' refused told :=
  ⟨hJ, hL, by have := h.n_le; omega, by have := h.le; omega, fun _ => rfl, h.told_, by have := h.ref; omega, h.gaps⟩
end
theorem gap_take {l : List Itm} {i : Nat} {x : Itm} (h : l[i]? = some x) : gapSum (l.take (i + 1)) = gapSum (l.take i) + gapW x := by rw [itm_take h, gapSum_snoc]
end Go.Proofs.Ytfbdpmeelejdhaa
