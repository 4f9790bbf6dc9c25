/-
  'do' of law11, whatever the act; what a pair of a store and the document's is while acts go on.
-/
import Derived.Test.YtgpfmkkkpdpdfaaDoorDo113
import Derived.Test.YtgpfmkkkpdpdfaaDoorDo114
import Derived.Test.YtgpfmkkkpdpdfaaDoorDo115
import Derived.Test.YtgpfmkkkpdpdfaaDoorDo11A
import Derived.Test.YtgpfmkkkpdpdfaaDoorWorks11
namespace Go.Proofs.YtgpfmkkkpdpdfaaDoor
open Go.RowKit Go.Maps

section
variable {w0 w w' : World} {s M bad n : Nat} {most : Int} {L : List SRep}
def Op11.small (o : Op11) : Prop := o.s.size ≤ 100 ∧ o.a.size ≤ 100 ∧ o.b.size ≤ 100 ∧ (o.kind % 8 = 6 → o.kn ≤ 20)
theorem do11_any (h : Sto w0 w s M most bad L n) (hn : n < 1048576) {v : Value} (hd : DocL w v (L.map SRep.f)) (o : Op11) (hg : o.good w0) (hs : o.small) :
    Calls Tryd.prog 34 #[.pointer (some ⟨s, 0, none⟩), docS v most bad, opV11 o] w fun e w' => ∃ a m c L3, e = .returned (.tuple #[.agg #[.slice a m c, .int .i64 most, .int .i64 ((doP most bad (L.map SRep.f) o).1 : Nat)], .bool true]) ∧ Sto w0 w' s M most (doP most bad (L.map SRep.f) o).1 L3 (n + 1) ∧ L3.map SRep.f = (doP most bad (L.map SRep.f) o).2 ∧ DocL w' (.slice a m c) (doP most bad (L.map SRep.f) o).2 ∧ Keeps (fun i => w0.heap.size ≤ i ∧ StT w i) w w' := by
  refine Calls.mono (R := Did w0 w s M most (n + 1) (doP most bad (L.map SRep.f) o)) ?_ fun e w' ⟨v, L3, he, h1, h2, h3, h4⟩ => by
    obtain ⟨a, m, c, rfl⟩ := h3.slc
    exact ⟨a, m, c, L3, he, h1, h2, h3, h4⟩
  obtain ⟨s1, s2, s3, s4⟩ := hs
  obtain ⟨g1, g2, g3, g4, g5, g6, g7, g8⟩ := hg
  unfold doP
  by_cases h2 : o.kind % 8 = 2
  · rw [if_pos h2]; exact do11_2 h hn hd o h2 s2
  rw [if_neg h2]
  by_cases h3 : o.kind % 8 = 3
  · rw [if_pos h3]; exact do11_3 h hn hd o h3 s2 s3
  rw [if_neg h3]
  by_cases h4 : o.kind % 8 = 4
  · rw [if_pos h4]; exact do11_4 h hn hd o h4 s2
  rw [if_neg h4]
  by_cases h5 : o.kind % 8 = 5
  · rw [if_pos h5]; exact do11_5 h hn hd o h5 g5
  rw [if_neg h5]
  by_cases h6 : o.kind % 8 = 6
  · rw [if_pos h6]; exact do11_6 h hn hd o h6 g7 g8 (s4 h6)
  rw [if_neg h6]
  exact do11_A h hn hd o ⟨h2, h3, h4, h5, h6⟩ s2 s1

/-- a store, and the document's in a variable -/
structure Pair (w0 wr : World) (s M : Nat) (most : Int) (bad : Nat) (L : List SRep) (v : Value) (xb n : Nat) : Prop where
  sto : Sto w0 wr s M most bad L n
  doc : DocL wr v (L.map SRep.f)
  xat : Blk wr xb 29 #[v, .int .i64 most, .int .i64 bad]
  xlo : w0.heap.size ≤ xb
variable {v : Value} {xb : Nat}
theorem Pair.same (h : Pair w0 w s M most bad L v xb n) (k : Keeps (fun _ => False) w w') : Pair w0 w' s M most bad L v xb n :=
  ⟨h.sto.same k, h.doc.keeps k, h.xat.keeps k id, h.xlo⟩
theorem Pair.slc (h : Pair w0 w s M most bad L v xb n) : ∃ a n c, v = .slice a n c := h.doc.slc
theorem Pair.mono_n (h : Pair w0 w s M most bad L v xb n) (hn : n < 1048576) : Pair w0 w s M most bad L v xb (n + 1) := { h with sto := h.sto.mono_n hn }
/-- behind an act (w3), and what it told is put into the variable (wx) -/
theorem Pair.fin {w3 wx : World} {x : Nat × List SFile} {v3 : Value} {L3 : List SRep} {m : Nat} (h : Pair w0 w s M most bad L v xb n) (hS : Sto w0 w3 s M most x.1 L3 m) (hl : L3.map SRep.f = x.2) (hd : DocL w3 v3 x.2) (k3 : Keeps (fun i => w0.heap.size ≤ i ∧ StT w i) w w3)
    (kx : Keeps (fun i => i = xb) w3 wx) (hx : Blk wx xb 29 #[v3, .int .i64 most, .int .i64 x.1]) : Pair w0 wx s M most x.1 L3 v3 xb m := by
  have h3 := h.xat.other k3 (by decide) (by decide) (by decide)
  have hlo := h.xlo
  refine ⟨hS.beside kx (fun i e => by subst e; exact ⟨hlo, _, _, h3, by decide, by decide, by decide⟩), ?_, hx, h.xlo⟩
  rw [hl]
  exact OwnS.keeps hd kx (fun i _ _ ⟨cs, hb⟩ e => Blk.ne_ hb (e ▸ h3) (by decide) rfl)
end
theorem slAt_cells {w : World} {b off : Nat} {l : List Op11} (hc : ∀ (i : Nat) (x : Op11) (j : Nat) (v : Value), l[i]? = some x → (opR11 x)[j]? = some v → w.cell? ⟨b, off + i * 6 + j, none⟩ = some v) {i : Nat} {x : Op11} (hx : l[i]? = some x) :
    w.cell? ⟨b, off + i * 6, none⟩ = some (.int .u8 x.kind) ∧ w.cell? ⟨b, off + i * 6 + 1, none⟩ = some (.string x.a) ∧ w.cell? ⟨b, off + i * 6 + 2, none⟩ = some (.string x.b) ∧ w.cell? ⟨b, off + i * 6 + 3, none⟩ = some (.string x.s) ∧ w.cell? ⟨b, off + i * 6 + 4, none⟩ = some (.int .i64 x.n) ∧ w.cell? ⟨b, off + i * 6 + 5, none⟩ = some (.slice x.ka x.kn x.kc) :=
  ⟨hc i x 0 _ hx rfl, hc i x 1 _ hx rfl, hc i x 2 _ hx rfl, hc i x 3 _ hx rfl, hc i x 4 _ hx rfl, hc i x 5 _ hx rfl⟩
theorem opAt {w : World} {a : Option Addr} {n : Nat} {l : List Op11} (h : SlAt opR11 6 w a n l) {i : Nat} (hi : i < n) : ∃ x b off, l[i]? = some x ∧ x ∈ l ∧ a = some ⟨b, off, none⟩ ∧ b < w.heap.size ∧ ∀ W, Keeps (fun _ => False) w W →
    (W.cell? ⟨b, off + i * 6, none⟩ = some (.int .u8 x.kind) ∧ W.cell? ⟨b, off + i * 6 + 1, none⟩ = some (.string x.a) ∧ W.cell? ⟨b, off + i * 6 + 2, none⟩ = some (.string x.b) ∧ W.cell? ⟨b, off + i * 6 + 3, none⟩ = some (.string x.s) ∧ W.cell? ⟨b, off + i * 6 + 4, none⟩ = some (.int .i64 x.n) ∧ W.cell? ⟨b, off + i * 6 + 5, none⟩ = some (.slice x.ka x.kn x.kc)) := by
  obtain ⟨b, off, ha, hb, _⟩ := h.2 (by omega)
  have hl : i < l.length := by rw [h.1]; exact hi
  refine ⟨l[i], b, off, List.getElem?_eq_getElem hl, List.getElem_mem hl, ha, hb, fun W k => ?_⟩
  obtain ⟨b', off', ha', _, hc⟩ := (h.keeps k (fun _ _ => id)).2 (by omega)
  rw [ha] at ha'
  injection ha' with ha'
  injection ha' with e1 e2
  subst e1 e2
  exact slAt_cells hc (List.getElem?_eq_getElem hl)
/-- some pair, while acts go on -/
def Pairs (w0 wr : World) (s M : Nat) (most : Int) (xb n : Nat) : Prop := ∃ bad L v, Pair w0 wr s M most bad L v xb n

section
variable {w w' : World} {F : Nat → Prop} {s M bad : Nat} {most : Int} {L : List SRep}
theorem rd_some (h : StoreAt w F s most bad M L) {r : SRep} (hr : r ∈ L) (hn : r.f.name.size ≤ maxLen) : Calls Tryd.prog 16 #[.pointer (some ⟨s, 0, none⟩), .string r.f.name] w fun e w' => e = .returned (.tuple #[.string r.f.data, .bool true]) ∧ w' = w := by
  have := read_any h r.f.name hn
  rwa [show getG SRep.nm r.f.name L = some r from getG_of_mem h.rise hr] at this
theorem sz_some (h : StoreAt w F s most bad M L) {r : SRep} (hr : r ∈ L) (hn : r.f.name.size ≤ maxLen) : Calls Tryd.prog 42 #[.pointer (some ⟨s, 0, none⟩), .string r.f.name] w fun e w' => e = .returned (.tuple #[.int .i64 (r.f.data.size : Nat), .int .i64 (r.f.sure : Nat)]) ∧ Keeps (fun _ => False) w w' := by
  have := size_any h r.f.name hn
  rwa [show getG SRep.nm r.f.name L = some r from getG_of_mem h.rise hr] at this
end
end Go.Proofs.YtgpfmkkkpdpdfaaDoor
