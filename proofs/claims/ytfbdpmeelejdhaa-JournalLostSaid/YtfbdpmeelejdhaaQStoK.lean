/-
  store: a crash, plainly and by walk.
-/
import Derived.Test.YtfbdpmeelejdhaaQStoG
import Derived.Test.YtfbdpmeelejdhaaQGround
namespace Go.Proofs.Ytfbdpmeelejdhaa
open Go.RowKit Go.Maps

def intR (k : Int) : List Value := [.int .i64 k]
/-- how many more bytes of a file stay -/
def moreC (keep : List Int) (j : Nat) (f : SFile) : Nat := match keep[j]? with
  | some k => (min k ((f.data.size : Int) - f.sure)).toNat
  | none => 0
def crashF (keep : List Int) (j : Nat) (f : SFile) : SFile := ⟨f.name, f.data.extract 0 (f.sure + moreC keep j f), f.sure + moreC keep j f⟩
def crashUp (keep : List Int) (l : List SFile) (i : Nat) : List SFile := l.mapIdx fun j f => if j < i then crashF keep j f else f
def crashP (keep : List Int) (l : List SFile) : List SFile := l.mapIdx (crashF keep)
theorem crashUp_zero (keep : List Int) (l : List SFile) : crashUp keep l 0 = l := by
  apply List.ext_getElem?
  intro j
  unfold crashUp
  rw [List.getElem?_mapIdx]
  cases l[j]? <;> simp
theorem crashUp_end (keep : List Int) (l : List SFile) {i : Nat} (h : l.length ≤ i) : crashUp keep l i = crashP keep l := by
  apply List.ext_getElem?
  intro j
  unfold crashUp crashP
  rw [List.getElem?_mapIdx, List.getElem?_mapIdx]
  rcases Nat.lt_or_ge j l.length with hj | hj
  · rw [List.getElem?_eq_getElem hj]; simp [show j < i by omega]
  · rw [List.getElem?_eq_none hj]; rfl
theorem crashUp_at {keep : List Int} {l : List SFile} {i : Nat} : (crashUp keep l i)[i]? = l[i]? := by
  unfold crashUp
  rw [List.getElem?_mapIdx]
  cases l[i]? <;> simp
theorem crashUp_step {keep : List Int} {l : List SFile} {i : Nat} {f : SFile} (h : l[i]? = some f) : crashUp keep l (i + 1) = (crashUp keep l i).set i (crashF keep i f) := by
  have hi := (List.getElem?_eq_some_iff.1 h).1
  apply List.ext_getElem?
  intro j
  unfold crashUp
  rw [List.getElem?_mapIdx, List.getElem?_set, List.getElem?_mapIdx]
  by_cases hj : i = j
  · subst hj
    rw [if_pos rfl, if_pos (by simpa using hi), h]; simp
  · rw [if_neg hj]
    cases l[j]? with
    | none => rfl
    | some g =>
      simp only [Option.map_some]
      by_cases h1 : j < i
      · rw [if_pos h1, if_pos (by omega)]
      · rw [if_neg h1, if_neg (by omega)]

section
variable {w w' : World} {F S : Nat → Prop} {s M bad : Nat} {most : Int} {L : List SRep}
theorem swap_set {r r0 : SRep} (hr : Rise SRep.nm L) {i : Nat} (h0 : L[i]? = some r0) (hn : r.f.name = r0.f.name) : swapR r L = L.set i r := by
  apply List.ext_getElem?
  intro j
  unfold swapR
  rw [List.getElem?_map, List.getElem?_set]
  have hi := (List.getElem?_eq_some_iff.1 h0).1
  by_cases hj : i = j
  · subst hj
    rw [if_pos rfl, if_pos hi, h0]
    simp only [Option.map_some]
    rw [if_pos hn.symm]
  · rw [if_neg hj]
    cases ha : L[j]? with
    | none => rfl
    | some a =>
      simp only [Option.map_some]
      rw [if_neg]
      intro e
      have h1 := rise_inj hr (List.mem_of_getElem? ha) (List.mem_of_getElem? h0) (e.trans hn)
      subst h1
      have hp := hr
      unfold Rise at hp
      rw [List.pairwise_iff_getElem] at hp
      have hj2 := (List.getElem?_eq_some_iff.1 ha)
      have hi2 := (List.getElem?_eq_some_iff.1 h0)
      rcases Nat.lt_or_ge i j with hlt | hge
      · have := hp i j hi hj2.1 hlt
        rw [hi2.2, hj2.2, nmLt_irrefl] at this
        cases this
      · have := hp j i hj2.1 hi (by omega)
        rw [hi2.2, hj2.2, nmLt_irrefl] at this
        cases this
/-- a file cut to its first n bytes, all of them sure -/
theorem StoreAt.cutTo {r : SRep} (h : StoreAt w F s most bad M L) {i : Nat} (hi : L[i]? = some r) {a : Option Addr} {m c n : Nat} (hv : r.v = .slice a m c) (hn : n ≤ r.f.data.size) (x : Int) (hx : x = n) {w1 : World} (k1 : Keeps (fun _ => False) (w.setCell ⟨r.p, 1, none⟩ (.int .i64 x)) w1) :
    StoreAt (w1.setCell ⟨r.p, 0, none⟩ (.slice a n n)) F s most bad M (L.set i ⟨⟨r.f.name, r.f.data.extract 0 n, n⟩, r.p, .slice a n n⟩) ∧ Keeps (fun i => i = r.p) w (w1.setCell ⟨r.p, 0, none⟩ (.slice a n n)) := by
  have hr := List.mem_of_getElem? hi
  subst hx
  have h1 := h.setSure hr n n rfl
  have hf := h.each r hr
  have hs := h1.1.keeps k1 (fun _ _ => id)
  have e1 : swapR ⟨⟨r.f.name, r.f.data, n⟩, r.p, r.v⟩ L = L.set i ⟨⟨r.f.name, r.f.data, n⟩, r.p, r.v⟩ := swap_set h.rise hi rfl
  rw [e1] at hs
  have hlt := (List.getElem?_eq_some_iff.1 hi).1
  have hi1 : (L.set i ⟨⟨r.f.name, r.f.data, n⟩, r.p, r.v⟩)[i]? = some ⟨⟨r.f.name, r.f.data, n⟩, r.p, r.v⟩ := by rw [List.getElem?_set, if_pos rfl, if_pos hlt]
  have hf1 := hs.each _ (List.mem_of_getElem? hi1)
  have k2 : Keeps (fun i => i = r.p) w1 (w1.setCell ⟨r.p, 0, none⟩ (.slice a n n)) := (Keeps.refl (fun i => i = r.p) w1).setCell (p := ⟨r.p, 0, none⟩) (fun _ => rfl) _
  have hown : OwnQ w1 5 (.slice a m c) (u8Vs r.f.data.data.toList) := by rw [← hv]; exact hf1.own
  have hcut := hown.cut (n := n) (by rw [u8Vs_size]; exact hn)
  have hd : (u8Vs r.f.data.data.toList).take n = u8Vs (r.f.data.extract 0 n).data.toList := by
    rw [← u8Vs_take]
    congr 1
    simp [List.extract_eq_take_drop]
  rw [hd] at hcut
  have hrow : ∀ j, rowB (.slice a n n) = some j → rowB r.v = some j := fun j hj => by
    rcases hcut.2 with e | e
    · rw [e] at hj; cases hj
    · rw [hv, ← e]; exact hj
  have hb : ∀ j, j = r.p → (∃ cs, Blk w1 j 5 cs) → False := fun j e ⟨_, hb⟩ => Blk.ne_ hb hf1.blk (by decide) e
  have hsw := hs.swap (r := ⟨⟨r.f.name, r.f.data.extract 0 n, n⟩, r.p, .slice a n n⟩) (List.mem_of_getElem? hi1) rfl rfl (k2.mono fun _ _ e => .inl e) (fun _ h => h) ⟨hf1.blk.set_ 0 _, hcut.1.keeps k2 (fun j _ hbb e => hb j e hbb), hf.fp, fun j hj => hf.fr j (hrow j hj)⟩ (fun j hj => .inl (hrow j hj))
  rw [swap_set (r := ⟨⟨r.f.name, r.f.data.extract 0 n, n⟩, r.p, .slice a n n⟩) hs.rise hi1 rfl, List.set_set] at hsw
  exact ⟨hsw, (h1.2.and_ k1 (fun _ _ h => h.elim)).trans k2⟩

theorem own_cell {w : World} {B : Nat} {e : TypeId} {v : Value} {vs : List Value} (h : OwnL w B e v vs) {j n : Nat} {u : Value} (hu : vs[j]? = some u) (hn : vs.length = n) :
    ∃ g c, v = .slice (some ⟨g, 0, none⟩) n c ∧ w.cell? ⟨g, j, none⟩ = some u ∧ B ≤ g ∧ g < w.heap.size := by
  subst hn
  obtain ⟨a, c, hv, h1, h2, h3, h4⟩ := h.shape
  obtain ⟨g, hg, hB, hlt⟩ := h3 (by have := (List.getElem?_eq_some_iff.1 hu).1; omega)
  subst hg
  exact ⟨g, c, hv, (h4 g rfl j u hu).1, hB, hlt⟩
theorem ownQ_cap {w : World} {e : TypeId} {a : Option Addr} {n c : Nat} {vs : List Value} (h : OwnQ w e (.slice a n c) vs) : n ≤ c := by
  rcases h with ⟨_, b, hv⟩ | ⟨g, off, cap, cur, hv, hb, h1, _⟩
  · injection hv with _ e1 e2; omega
  · injection hv with _ e1 e2; omega
theorem StT.lt {i : Nat} (h : StT w i) : i < w.heap.size := by
  rcases h with ⟨_, h⟩ | ⟨_, h⟩ | ⟨_, h⟩ | ⟨es, c, h⟩
  · exact h.lt
  · exact h.lt
  · exact h.lt
  · exact (Array.getElem?_eq_some_iff.1 h).1
theorem getElem_map_f {L : List SRep} {i : Nat} {r : SRep} (h : L[i]? = some r) : (L.map SRep.f)[i]? = some r.f := by rw [List.getElem?_map, h]; rfl
end
end Go.Proofs.Ytfbdpmeelejdhaa
