/-
  How a store lies in memory; what its map answers; what a put, a file's change, and a delete leave.
-/
import Derived.Test.YtgpfmkkkpdpdfaaDoorStoM
import Derived.Test.YtgpfmkkkpdpdfaaDoorOwnB
import Derived.Test.YtgpfmkkkpdpdfaaDoorChecked
namespace Go.Proofs.YtgpfmkkkpdpdfaaDoor
open Go.RowKit Go.Maps

structure SFile where
  name : ByteArray
  data : ByteArray
  sure : Nat
/-- a file, the block that it is, and the value of its bytes -/
structure SRep where
  f : SFile
  p : Nat
  v : Value
def SRep.nm (r : SRep) : ByteArray := r.f.name
structure FileOk (w : World) (F : Nat → Prop) (r : SRep) : Prop where
  blk : Blk w r.p 91 #[r.v, .int .i64 r.f.sure]
  own : OwnQ w 5 r.v (u8Vs r.f.data.data.toList)
  fp : F r.p
  fr : ∀ i, rowB r.v = some i → F i
def Off (a b : SRep) : Prop := a.p ≠ b.p ∧ ∀ i, rowB a.v = some i → rowB b.v ≠ some i
theorem Off.symm {a b : SRep} (h : Off a b) : Off b a := ⟨fun e => h.1 e.symm, fun i hi e => h.2 i e hi⟩
/-- a store at block s, its map at M, its files L; all its blocks are among F -/
structure StoreAt (w : World) (F : Nat → Prop) (s : Nat) (most : Int) (bad M : Nat) (L : List SRep) : Prop where
  top : Blk w s 88 #[.map (some M), .int .i64 most, .int .i64 bad]
  map : w.ownsMap Tryd.prog 9 ptrR M L.length (mapD SRep.nm SRep.p L)
  fs : F s
  fM : F M
  each : ∀ r ∈ L, FileOk w F r
  apart : L.Pairwise Off
  rise : Rise SRep.nm L

section
variable {w w' : World} {F G S : Nat → Prop} {s M bad : Nat} {most : Int} {L : List SRep}
theorem FileOk.keeps {r : SRep} (h : FileOk w F r) (k : Keeps S w w') (hS : ∀ i, F i → ¬ S i) : FileOk w' F r := ⟨h.blk.keeps k (hS _ h.fp), h.own.keeps k (fun i hi _ => hS i (h.fr i hi)), h.fp, h.fr⟩
theorem FileOk.mono {r : SRep} (h : FileOk w F r) (hG : ∀ i, F i → G i) : FileOk w G r := ⟨h.blk, h.own, hG _ h.fp, fun i hi => hG i (h.fr i hi)⟩
theorem StoreAt.keeps (h : StoreAt w F s most bad M L) (k : Keeps S w w') (hS : ∀ i, F i → ¬ S i) : StoreAt w' F s most bad M L :=
  ⟨h.top.keeps k (hS _ h.fs), ownsMap_keeps h.map k (hS _ h.fM), h.fs, h.fM, fun r hr => (h.each r hr).keeps k hS, h.apart, h.rise⟩
theorem StoreAt.mono (h : StoreAt w F s most bad M L) (hG : ∀ i, F i → G i) : StoreAt w G s most bad M L :=
  ⟨h.top, h.map, hG _ h.fs, hG _ h.fM, fun r hr => (h.each r hr).mono hG, h.apart, h.rise⟩
theorem StoreAt.isMap (h : StoreAt w F s most bad M L) : ∃ es c, w.heap[M]? = some (.map es c) := by
  obtain ⟨es, c, hb, _⟩ := h.map
  exact ⟨es, c, hb⟩
theorem blk_map_ne {b M : Nat} {t : TypeId} {cs : Array Value} (h : Blk w b t cs) (hm : ∃ es c, w.heap[M]? = some (.map es c)) : b ≠ M := by
  rintro rfl
  obtain ⟨es, c, hm⟩ := hm
  unfold Blk at h
  rw [h] at hm
  cases hm
/-- the kinds of blocks that a store is made of -/
def StT (w : World) (i : Nat) : Prop := (∃ cs, Blk w i 88 cs) ∨ (∃ cs, Blk w i 91 cs) ∨ (∃ cs, Blk w i 5 cs) ∨ ∃ es c, w.heap[i]? = some (.map es c)
theorem StoreAt.shrink (h : StoreAt w F s most bad M L) : StoreAt w (fun i => F i ∧ StT w i) s most bad M L :=
  ⟨h.top, h.map, ⟨h.fs, .inl ⟨_, h.top⟩⟩, ⟨h.fM, .inr (.inr (.inr h.isMap))⟩, fun r hr => ⟨(h.each r hr).blk, (h.each r hr).own, ⟨(h.each r hr).fp, .inr (.inl ⟨_, (h.each r hr).blk⟩)⟩, fun i hi => ⟨(h.each r hr).fr i hi, .inr (.inr (.inl ((h.each r hr).own.row i hi)))⟩⟩, h.apart, h.rise⟩
theorem StT.not {i : Nat} {t : TypeId} {cs : Array Value} (h : StT w i) (hb : Blk w i t cs) (h1 : t ≠ 88) (h2 : t ≠ 91) (h3 : t ≠ 5) : False := by
  rcases h with ⟨_, h⟩ | ⟨_, h⟩ | ⟨_, h⟩ | h
  · exact Blk.ne_ hb h h1 rfl
  · exact Blk.ne_ hb h h2 rfl
  · exact Blk.ne_ hb h h3 rfl
  · exact blk_map_ne hb h rfl
theorem StT.keeps {i : Nat} (h : StT w i) (k : Keeps S w w') (hS : ¬ S i) : StT w' i := by
  rcases h with ⟨_, h⟩ | ⟨_, h⟩ | ⟨_, h⟩ | ⟨es, c, h⟩
  · exact .inl ⟨_, h.keeps k hS⟩
  · exact .inr (.inl ⟨_, h.keeps k hS⟩)
  · exact .inr (.inr (.inl ⟨_, h.keeps k hS⟩))
  · refine .inr (.inr (.inr ⟨es, c, (k.block i ?_ hS).trans h⟩))
    exact (Array.getElem?_eq_some_iff.1 h).1

theorem sto_key (nm : ByteArray) (hn : nm.size ≤ maxLen) : keyOf Tryd.prog 9 (.string nm) = some (.string nm.data.toList) := WideMaps.keyOf_string_mk Tryd.underlying9 hn
abbrev stoK : Keyed Tryd.prog 9 := string_keyed Tryd.underlying9
theorem sto_zero : (zeroValue 84).run Tryd.prog w = .ok (.pointer none) w := by kernel_rfl

/-- v, ok := m[name] -/
theorem StoreAt.look (h : StoreAt w F s most bad M L) (nm : ByteArray) (hn : nm.size ≤ maxLen) :
    (Instr.lookup 86 (.map (some M)) (.string nm) true).run Tryd.prog w = .ok (.tuple #[.pointer ((getG SRep.nm nm L).map fun r => ⟨r.p, 0, none⟩), .bool (getG SRep.nm nm L).isSome]) w := by
  obtain ⟨v, ps, hrun, hv⟩ := h.map.look_ok stoK Tryd.underlying86 sto_zero (zd := .lit (.bool false)) (zp := []) rfl (sto_key nm hn)
  rw [mapD_has] at hrun
  rw [mapD_at] at hv
  rw [hrun]
  cases hg : getG SRep.nm nm L with
  | none => rw [hg] at hv; rw [ptrR_nil hv]; rfl
  | some r => rw [hg] at hv; rw [ptrR_inv hv]; rfl
/-- m[name], of one that is there -/
theorem StoreAt.look1 (h : StoreAt w F s most bad M L) {r : SRep} (hr : r ∈ L) (hn : r.f.name.size ≤ maxLen) :
    (Instr.lookup 86 (.map (some M)) (.string r.f.name) false).run Tryd.prog w = .ok (.pointer (some ⟨r.p, 0, none⟩)) w := by
  obtain ⟨v, ps, hrun, hv⟩ := h.map.lookup stoK Tryd.underlying86 sto_zero (zd := .lit (.bool false)) (zp := []) rfl (sto_key r.f.name hn)
  rw [mapD_at, show getG SRep.nm r.f.name L = some r from getG_of_mem h.rise hr] at hv
  rw [hrun, ptrR_inv hv]

theorem off_perm {l l' : List SRep} (h : l.Pairwise Off) (p : l.Perm l') : l'.Pairwise Off := (p.pairwise_iff (fun {_ _} h => h.symm)).1 h
/-- m[name] = p -/
theorem StoreAt.put (h : StoreAt w F s most bad M L) (r : SRep) (hr : FileOk w F r) (hap : ∀ a ∈ delG SRep.nm r.f.name L, Off r a) (hn : r.f.name.size ≤ maxLen) (hL : L.length < maxLen) :
    ∃ w', (Instr.mapUpdate 86 (.map (some M)) (.string r.f.name) (.pointer (some ⟨r.p, 0, none⟩))).run Tryd.prog w = .ok () w' ∧ StoreAt w' F s most bad M (putG SRep.nm r L) ∧ Keeps (fun i => i = M) w w' := by
  obtain ⟨w', hrun, hm, ht⟩ := h.map.store stoK Tryd.underlying86 hL (sto_key r.f.name hn) (val := .pointer (some ⟨r.p, 0, none⟩)) (d := .lit (.int .i64 r.p)) (ps := []) rfl
  have k := turned_keeps ht
  have hne : ∀ {b : Nat} {t : TypeId} {cs : Array Value}, Blk w b t cs → ¬ b = M := fun hb => blk_map_ne hb h.isMap
  have hfile : ∀ a, FileOk w F a → FileOk w' F a := fun a ha => ⟨ha.blk.keeps k (hne ha.blk), ha.own.keeps k (fun i _ ⟨_, hb⟩ => hne hb), ha.fp, ha.fr⟩
  refine ⟨w', hrun, ⟨h.top.keeps k (hne h.top), ?_, h.fs, h.fM, fun a ha => ?_, ?_, putG_rise h.rise r⟩, k⟩
  · have hm2 : w'.ownsMap Tryd.prog 9 ptrR M (L.length + 1) (mapD SRep.nm SRep.p (putG SRep.nm r L)) := by
      rw [← mapD_put]; exact hm
    have := ownsMap_len hm2
    rwa [List.length_map] at this
  · rcases insG_mem.1 ha with rfl | ha
    · exact hfile _ hr
    · exact hfile a (h.each a (delG_mem.1 ha).1)
  · refine off_perm (List.pairwise_cons.2 ⟨fun a ha => hap a ha, List.Pairwise.filter _ h.apart⟩) (insG_perm r _).symm
/-- delete(m, name) -/
theorem StoreAt.del (h : StoreAt w F s most bad M L) (nm : ByteArray) (hn : nm.size ≤ maxLen) (ty : TypeId) :
    ∃ w', (Builtin.delete_ #[86, 9] ty #[.map (some M), .string nm]).run Tryd.prog w = .ok (.tuple #[]) w' ∧ StoreAt w' F s most bad M (delG SRep.nm nm L) ∧ Keeps (fun i => i = M) w w' := by
  obtain ⟨w', hrun, hm, ht⟩ := h.map.drop stoK Tryd.underlying86 (sto_key nm hn) ty
  have k := turned_keeps ht
  have hne : ∀ {b : Nat} {t : TypeId} {cs : Array Value}, Blk w b t cs → ¬ b = M := fun hb => blk_map_ne hb h.isMap
  refine ⟨w', hrun, ⟨h.top.keeps k (hne h.top), ?_, h.fs, h.fM, fun a ha => ?_, List.Pairwise.filter _ h.apart, delG_rise h.rise nm⟩, k⟩
  · rw [mapD_del] at hm
    have := ownsMap_len hm
    rwa [List.length_map] at this
  · have hf := h.each a (delG_mem.1 ha).1
    exact ⟨hf.blk.keeps k (hne hf.blk), hf.own.keeps k (fun i _ ⟨_, hb⟩ => hne hb), hf.fp, hf.fr⟩
/-- the calls that will fail -/
theorem StoreAt.setBad (h : StoreAt w F s most bad M L) (b' : Nat) (x : Int) (hx : x = b') : StoreAt (w.setCell ⟨s, 2, none⟩ (.int .i64 x)) F s most b' M L ∧ Keeps (fun i => i = s) w (w.setCell ⟨s, 2, none⟩ (.int .i64 x)) := by
  subst hx
  have k : Keeps (fun i => i = s) w (w.setCell ⟨s, 2, none⟩ (.int .i64 b')) := (Keeps.refl (fun i => i = s) w).setCell (p := ⟨s, 2, none⟩) (fun _ => rfl) _
  have hs := h.top
  refine ⟨⟨hs.set_ 2 _, ownsMap_keeps h.map k (fun e => blk_map_ne hs h.isMap e.symm), h.fs, h.fM, fun r hr => ?_, h.apart, h.rise⟩, k⟩
  have hf := h.each r hr
  exact ⟨hf.blk.keeps k (Blk.ne_ hf.blk hs (by decide)), hf.own.keeps k (fun i _ ⟨_, hb⟩ => Blk.ne_ hb hs (by decide)), hf.fp, hf.fr⟩
def swapR (r : SRep) (L : List SRep) : List SRep := L.map fun a => if a.f.name = r.f.name then r else a
theorem swap_D {r0 r : SRep} (hr : Rise SRep.nm L) (h0 : r0 ∈ L) (hn : r.f.name = r0.f.name) (hp : r.p = r0.p) : mapD SRep.nm SRep.p (swapR r L) = mapD SRep.nm SRep.p L := by
  unfold mapD swapR
  rw [List.map_map]
  congr 1
  refine List.map_congr_left fun a ha => ?_
  show ent SRep.nm SRep.p (if a.f.name = r.f.name then r else a) = ent SRep.nm SRep.p a
  by_cases he : a.f.name = r.f.name
  · rw [if_pos he]
    have hx : a = r0 := rise_inj hr ha h0 (he.trans hn)
    rw [hx]
    unfold ent
    show (Lit.string r.f.name.data.toList, DataW.lit (Lit.int .i64 (r.p : Int))) = (Lit.string r0.f.name.data.toList, DataW.lit (Lit.int .i64 (r0.p : Int)))
    rw [hn, hp]
  · rw [if_neg he]
theorem swap_mem {r0 r a : SRep} (hn : r.f.name = r0.f.name) (ha : a ∈ swapR r L) : a = r ∨ (a ∈ L ∧ a ≠ r0) := by
  obtain ⟨b, hb, rfl⟩ := List.mem_map.1 ha
  by_cases he : b.f.name = r.f.name
  · rw [if_pos he]; exact .inl rfl
  · rw [if_neg he]; exact .inr ⟨hb, fun e => he (by rw [e, hn])⟩
/-- a file of it has changed, and nothing else of it -/
theorem StoreAt.swap {r0 r : SRep} (h : StoreAt w F s most bad M L) (h0 : r0 ∈ L) (hn : r.f.name = r0.f.name) (hp : r.p = r0.p)
    (k : Keeps (fun i => i = r0.p ∨ rowB r0.v = some i) w w') (hG : ∀ i, F i → G i) (hr : FileOk w' G r) (hrow : ∀ i, rowB r.v = some i → rowB r0.v = some i ∨ w.heap.size ≤ i) : StoreAt w' G s most bad M (swapR r L) := by
  have f0 := h.each r0 h0
  have hother : ∀ a ∈ L, a ≠ r0 → Off a r0 := fun a ha hne => by
    have : ∀ {l : List SRep}, l.Pairwise Off → a ∈ l → r0 ∈ l → Off a r0 := by
      intro l hl h1 h2
      induction l with
      | nil => cases h1
      | cons x l ih =>
        obtain ⟨p1, p2⟩ := List.pairwise_cons.1 hl
        rcases List.mem_cons.1 h1 with rfl | h1'
        · rcases List.mem_cons.1 h2 with e | h2'
          · exact absurd e.symm hne
          · exact p1 r0 h2'
        · rcases List.mem_cons.1 h2 with rfl | h2'
          · exact (p1 a h1').symm
          · exact ih p2 h1' h2'
    exact this h.apart ha h0
  have hrowlt : ∀ a ∈ L, ∀ i, rowB a.v = some i → i < w.heap.size := fun a ha i hi => by obtain ⟨cs, hb⟩ := (h.each a ha).own.row i hi; exact hb.lt
  have hfar : ∀ a ∈ L, a ≠ r0 → FileOk w' G a := fun a ha hne => by
    have fa := h.each a ha
    have ho := hother a ha hne
    refine ⟨fa.blk.keeps k ?_, fa.own.keeps k ?_, hG _ fa.fp, fun i hi => hG i (fa.fr i hi)⟩
    · rintro (e | e)
      · exact ho.1 e
      · obtain ⟨cs, hb⟩ := f0.own.row _ e
        exact Blk.ne_ fa.blk hb (by decide) rfl
    · rintro i hi ⟨cs, hb⟩ (e | e)
      · subst e
        exact Blk.ne_ hb f0.blk (by decide) rfl
      · exact ho.2 i hi e
  refine ⟨h.top.keeps k ?_, ?_, hG _ h.fs, hG _ h.fM, fun a ha => ?_, ?_, ?_⟩
  · rintro (e | e)
    · exact Blk.ne_ h.top f0.blk (by decide) e
    · obtain ⟨cs, hb⟩ := f0.own.row _ e
      exact Blk.ne_ h.top hb (by decide) rfl
  · rw [swap_D h.rise h0 hn hp, show (swapR r L).length = L.length by simp [swapR]]
    refine ownsMap_keeps h.map k ?_
    rintro (e | e)
    · exact blk_map_ne f0.blk h.isMap e.symm
    · obtain ⟨cs, hb⟩ := f0.own.row _ e
      exact blk_map_ne hb h.isMap rfl
  · rcases swap_mem hn ha with rfl | ⟨ha, hne⟩
    · exact hr
    · exact hfar a ha hne
  · unfold swapR
    rw [List.pairwise_map]
    refine h.apart.imp_of_mem fun {a b} ha hb ho => ?_
    have hro : ∀ a ∈ L, a ≠ r0 → Off a r := fun a ha hne => by
      have ho := hother a ha hne
      refine ⟨by rw [hp]; exact ho.1, fun i hi e => ?_⟩
      rcases hrow i e with e | e
      · exact ho.2 i hi e
      · have := hrowlt a ha i hi; omega
    by_cases h1 : a.f.name = r.f.name
    · have e1 : a = r0 := rise_inj h.rise ha h0 (h1.trans hn)
      by_cases h2 : b.f.name = r.f.name
      · have e2 : b = r0 := rise_inj h.rise hb h0 (h2.trans hn)
        subst e1
        rw [e2] at ho
        exact absurd rfl ho.1
      · rw [if_pos h1, if_neg h2]
        exact (hro b hb fun e => h2 (by rw [e, hn])).symm
    · by_cases h2 : b.f.name = r.f.name
      · rw [if_neg h1, if_pos h2]
        exact hro a ha fun e => h1 (by rw [e, hn])
      · rw [if_neg h1, if_neg h2]; exact ho
  · have : Rise SRep.nm (swapR r L) := by
      unfold Rise swapR
      rw [List.pairwise_map]
      refine h.rise.imp fun {a b} hlt => ?_
      have hs : ∀ a : SRep, SRep.nm (if a.f.name = r.f.name then r else a) = SRep.nm a := fun a => by
        by_cases h1 : a.f.name = r.f.name
        · rw [if_pos h1]; exact h1.symm
        · rw [if_neg h1]
      rw [hs, hs]; exact hlt
    exact this
theorem swap_put {r : SRep} (hr : Rise SRep.nm L) (h0 : ∃ r0 ∈ L, SRep.nm r0 = SRep.nm r) : swapR r L = putG SRep.nm r L := (putG_there hr h0).symm
end
end Go.Proofs.YtgpfmkkkpdpdfaaDoor
