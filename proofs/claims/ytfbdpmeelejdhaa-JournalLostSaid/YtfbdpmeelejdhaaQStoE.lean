/-
  store: Sync, Remove, Rename, Append, plainly and by walk.
-/
import Derived.Test.YtfbdpmeelejdhaaQStoD
namespace Go.Proofs.Ytfbdpmeelejdhaa
open Go.RowKit Go.Maps

def totF (l : List SFile) : Nat := (l.map fun f => f.data.size).sum
def syncP (bad : Nat) (l : List SFile) (nm : ByteArray) : Int × Nat × List SFile :=
  if (beginC bad nm).1 ≠ 0 then ((beginC bad nm).1, (beginC bad nm).2, l) else
  match getG SFile.name nm l with
  | none => (7, (beginC bad nm).2, l)
  | some f => (0, (beginC bad nm).2, putG SFile.name ⟨nm, f.data, f.data.size⟩ l)
def removeP (bad : Nat) (l : List SFile) (nm : ByteArray) : Int × Nat × List SFile :=
  if (beginC bad nm).1 ≠ 0 then ((beginC bad nm).1, (beginC bad nm).2, l) else
  match getG SFile.name nm l with
  | none => (7, (beginC bad nm).2, l)
  | some _ => (0, (beginC bad nm).2, delG SFile.name nm l)
def renameP (bad : Nat) (l : List SFile) (nm to : ByteArray) : Int × Nat × List SFile :=
  if (beginC bad nm).1 ≠ 0 then ((beginC bad nm).1, (beginC bad nm).2, l) else
  if namedP to = false then (1, (beginC bad nm).2, l) else
  match getG SFile.name nm l with
  | none => (7, (beginC bad nm).2, l)
  | some f => (0, (beginC bad nm).2, putG SFile.name ⟨to, f.data, f.sure⟩ (delG SFile.name nm l))
def appendP (most : Int) (bad : Nat) (l : List SFile) (nm b : ByteArray) : Int × Nat × List SFile :=
  if (beginC bad nm).1 ≠ 0 then ((beginC bad nm).1, (beginC bad nm).2, l) else
  if most < (totF l : Int) + b.size then (6, (beginC bad nm).2, l) else
  match getG SFile.name nm l with
  | none => (0, (beginC bad nm).2, putG SFile.name ⟨nm, b, 0⟩ l)
  | some f => (0, (beginC bad nm).2, putG SFile.name ⟨nm, f.data ++ b, f.sure⟩ l)

def up (F : Nat → Prop) (w : World) (i : Nat) : Prop := F i ∨ w.heap.size ≤ i
/-- what a call leaves: its error's code, the calls that will fail, the files -/
def After (w : World) (F : Nat → Prop) (s : Nat) (most : Int) (M : Nat) (x : Int × Nat × List SFile) (e : Ending) (w' : World) : Prop :=
  ∃ v L, e = .returned v ∧ ErrV w' x.1 v ∧ StoreAt w' (up F w) s most x.2.1 M L ∧ L.map SRep.f = x.2.2 ∧ Keeps F w w'

theorem nm_f (r : SRep) : SFile.name (SRep.f r) = SRep.nm r := rfl
theorem get_f (nm : ByteArray) (L : List SRep) : getG SFile.name nm (L.map SRep.f) = (getG SRep.nm nm L).map SRep.f := getG_map nm_f nm L
theorem tot_f (L : List SRep) : totF (L.map SRep.f) = totL L := by unfold totF totL; rw [List.map_map]; rfl
theorem begin_named {bad : Nat} {nm : ByteArray} (h : (beginC bad nm).1 = 0) : namedP nm = true := by
  unfold beginC at h
  by_cases hn : namedP nm = true
  · exact hn
  · rw [if_neg hn] at h; cases h
theorem begin_bad (bad : Nat) (nm : ByteArray) : (beginC bad nm).2 ≤ bad := by
  unfold beginC
  by_cases hn : namedP nm = true
  · rw [if_pos hn]; split <;> simp
  · rw [if_neg hn]; exact Nat.le_refl _

section
variable {w w' : World} {F S : Nat → Prop} {s M bad : Nat} {most : Int} {L : List SRep}
theorem ErrV.iface {c : Int} {v : Value} (h : ErrV w c v) (hc : c ≠ 0) : ∃ ty x, v = .iface ty x := by
  rcases h with ⟨h, _⟩ | ⟨_, l, hl⟩
  · exact absurd h hc
  · exact hl.form
theorem ErrV.nil_ {v : Value} (h : ErrV w 0 v) : v = .nilIface := by
  rcases h with ⟨_, h⟩ | ⟨h, _⟩
  · exact h
  · exact absurd rfl h
theorem Keeps.up (h : Keeps (fun i => i = s) w w') (hs : F s) : Keeps F w w' := h.mono fun _ _ e => by rw [e]; exact hs
theorem After.fails {x : Int × Nat × List SFile} {v : Value} (he : ErrV w' x.1 v) (hs : StoreAt w' F s most x.2.1 M L) (hl : x.2.2 = L.map SRep.f) (k : Keeps F w w') : After w F s most M x (.returned v) w' :=
  ⟨v, L, rfl, he, hs.mono fun _ h => .inl h, hl.symm, k⟩
theorem swap_f {r0 r : SRep} (h : Rise SRep.nm L) (h0 : r0 ∈ L) (hn : r.f.name = r0.f.name) : (swapR r L).map SRep.f = putG SFile.name r.f (L.map SRep.f) := by
  rw [swap_put h ⟨r0, h0, hn.symm⟩, putG_map nm_f]
/-- how many bytes are sure -/
theorem StoreAt.setSure {r : SRep} (h : StoreAt w F s most bad M L) (hr : r ∈ L) (n : Nat) (x : Int) (hx : x = n) :
    StoreAt (w.setCell ⟨r.p, 1, none⟩ (.int .i64 x)) F s most bad M (swapR ⟨⟨r.f.name, r.f.data, n⟩, r.p, r.v⟩ L) ∧ Keeps (fun i => i = r.p) w (w.setCell ⟨r.p, 1, none⟩ (.int .i64 x)) := by
  subst hx
  have hf := h.each r hr
  have k : Keeps (fun i => i = r.p) w (w.setCell ⟨r.p, 1, none⟩ (.int .i64 n)) := (Keeps.refl (fun i => i = r.p) w).setCell (p := ⟨r.p, 1, none⟩) (fun _ => rfl) _
  refine ⟨h.swap (r := ⟨⟨r.f.name, r.f.data, n⟩, r.p, r.v⟩) hr rfl rfl (k.mono fun _ _ e => .inl e) (fun _ h => h) ⟨hf.blk.set_ 1 _, hf.own.keeps k (fun i _ ⟨_, hb⟩ => Blk.ne_ hb hf.blk (by decide)), hf.fp, hf.fr⟩ (fun i hi => .inl hi), k⟩
/-- its bytes, which an append left in a world between -/
theorem StoreAt.setBytes {r : SRep} (h : StoreAt w F s most bad M L) (hr : r ∈ L) {v' : Value} {d : ByteArray} (ha : Appended w w' 5 r.v v' (u8Vs d.data.toList)) :
    StoreAt (w'.setCell ⟨r.p, 0, none⟩ v') (up F w) s most bad M (swapR ⟨⟨r.f.name, d, r.f.sure⟩, r.p, v'⟩ L) ∧ Keeps F w (w'.setCell ⟨r.p, 0, none⟩ v') := by
  have hf := h.each r hr
  obtain ⟨ho, k1, hrow⟩ := ha
  have hb1 : Blk w' r.p 74 #[r.v, .int .i64 r.f.sure] := hf.blk.keeps k1 fun e => by
    obtain ⟨cs, hb⟩ := hf.own.row _ e
    exact Blk.ne_ hf.blk hb (by decide) rfl
  have k2 : Keeps (fun i => i = r.p) w' (w'.setCell ⟨r.p, 0, none⟩ v') := (Keeps.refl (fun i => i = r.p) w').setCell (p := ⟨r.p, 0, none⟩) (fun _ => rfl) _
  have k : Keeps (fun i => i = r.p ∨ rowB r.v = some i) w (w'.setCell ⟨r.p, 0, none⟩ v') := (k1.mono fun _ _ h => .inr h).and_ k2 (fun i _ h => .inl h)
  refine ⟨h.swap (r := ⟨⟨r.f.name, d, r.f.sure⟩, r.p, v'⟩) hr rfl rfl k (fun _ h => .inl h) ⟨hb1.set_ 0 _, ho.keeps k2 (fun i _ ⟨_, hb⟩ => Blk.ne_ hb hb1 (by decide)), .inl hf.fp, fun i hi => ?_⟩ (fun i hi => ?_), k.mono fun i _ h => ?_⟩
  · rcases hrow with e | e
    · exact .inl (hf.fr i (e ▸ hi))
    · rw [show rowB v' = some i from hi] at e
      injection e with e
      exact .inr (by omega)
  · rcases hrow with e | e
    · exact .inl (e ▸ hi)
    · rw [show rowB v' = some i from hi] at e
      injection e with e
      exact .inr (by omega)
  · rcases h with rfl | h
    · exact hf.fp
    · exact hf.fr i h

theorem there_some (h : StoreAt w F s most bad M L) {nm : ByteArray} (hn : nm.size ≤ maxLen) {r : SRep} (hg : getG SRep.nm nm L = some r) :
    Calls Try.prog 35 #[.pointer (some ⟨s, 0, none⟩), .string nm] w fun e w' => e = .returned (.tuple #[.pointer (some ⟨r.p, 0, none⟩), .nilIface]) ∧ Keeps (fun _ => False) w w' :=
  (there_any h nm hn).mono fun e w' hh => by
    rcases hh with ⟨⟨r', h1, h2⟩ | ⟨h1, _⟩, k⟩
    · rw [hg] at h1; injection h1 with h1; subst h1; exact ⟨h2, k⟩
    · rw [hg] at h1; cases h1
theorem there_none (h : StoreAt w F s most bad M L) {nm : ByteArray} (hn : nm.size ≤ maxLen) (hg : getG SRep.nm nm L = none) :
    Calls Try.prog 35 #[.pointer (some ⟨s, 0, none⟩), .string nm] w fun e w' => (∃ a, e = .returned (.tuple #[.pointer none, .iface 77 (.pointer (some ⟨a, 0, none⟩))]) ∧ Chain w' [(0, nm)] 7 (.iface 77 (.pointer (some ⟨a, 0, none⟩)))) ∧ Keeps (fun _ => False) w w' :=
  (there_any h nm hn).mono fun e w' hh => by
    rcases hh with ⟨⟨r', h1, h2⟩ | ⟨_, h2⟩, k⟩
    · rw [hg] at h1; cases h1
    · exact ⟨h2, k⟩

set_option maxRecDepth 100000 in
set_option maxHeartbeats 1000000 in
/-- all bytes of a file are sure -/
theorem sync_any (h : StoreAt w F s most bad M L) (nm : ByteArray) (hb : bad ≤ 9223372036854775807) :
    Calls Try.prog 22 #[.pointer (some ⟨s, 0, none⟩), .string nm] w (After w F s most M (syncP bad (L.map SRep.f) nm)) := by
  have HB := Lib.hid (begin_any h nm hb)
  have hfs := h.fs
  have HF := Lib.hid hfs
  clear h hfs
  obtain ⟨c, hc⟩ : ∃ c, c = (beginC bad nm).1 := ⟨_, rfl⟩
  obtain ⟨b', hb'⟩ : ∃ b', b' = (beginC bad nm).2 := ⟨_, rfl⟩
  by_cases h0 : c = 0
  · have hnm := begin_named (hc ▸ h0)
    have hle := (namedP_size hnm).2
    have hsync : syncP bad (L.map SRep.f) nm = match getG SFile.name nm (L.map SRep.f) with | none => (7, b', L.map SRep.f) | some f => (0, b', putG SFile.name ⟨nm, f.data, f.data.size⟩ (L.map SRep.f)) := by
      unfold syncP
      rw [if_neg (by rw [← hc, h0]; simp), ← hb']
    rw [hsync, get_f]
    rw [← hc, ← hb', h0] at HB
    clear hsync hc hb' hnm h0
    have hle2 : nm.size ≤ maxLen := by unfold maxLen; omega
    cases hg : getG SRep.nm nm L with
    | some r =>
      simp only [Option.map_some]
      have HG := Lib.hid hg
      clear hg
      go_enter Try.func22, Try.ntmps22
      go_wp2_with fail
      refine HB.out.mono ?_
      rintro e w1 ⟨⟨v, rfl, hev⟩, hs1, k1⟩
      obtain rfl := hev.nil_
      have HS1 := Lib.hid hs1
      have HK1 := Lib.hid k1
      clear hs1 k1 hev
      go_wp2_with fail
      refine (there_some HS1.out hle2 HG.out).mono ?_
      rintro e w2 ⟨rfl, k2⟩
      have hr := getG_some HG.out
      have hs2 := HS1.out.keeps k2 (fun _ _ => id)
      have hf := hs2.each r hr.1
      have c0 := hf.blk.cell 0
      have c1 := hf.blk.cell 1
      have f1 := hf.blk.frozen 1
      simp only [List.getElem?_toArray, List.getElem?_cons_zero, List.getElem?_cons_succ] at c0 c1
      obtain ⟨a, cc, hv2⟩ := hf.own.sl
      rw [u8Vs_size] at hv2
      have hss := hs2.setSure hr.1 r.f.data.size _ rfl
      rw [hv2] at c0
      have hrn : r.f.name = nm := hr.2
      have HRN := Lib.hid hrn
      have HSS := Lib.hid hss
      have HR := Lib.hid hr.1
      have HS2 := Lib.hid hs2
      have HK2 := Lib.hid k2
      clear hr hs2 hf hv2 hrn hss k2
      go_wp2_with fail
      go_ret
      refine ⟨_, _, rfl, ErrV.ok, HSS.out.1.mono fun _ h => .inl h, ?_, ?_⟩
      · refine (swap_f (r := ⟨⟨r.f.name, r.f.data, r.f.data.size⟩, r.p, r.v⟩) HS2.out.rise HR.out rfl).trans ?_
        rw [HRN.out]
      · exact ((HK1.out.up HF.out).trans (Keeps.none_ HK2.out)).trans (HSS.out.2.mono fun i _ e => by rw [e]; exact (HS2.out.each r HR.out).fp)
    | none =>
      simp only [Option.map_none]
      have HG := Lib.hid hg
      clear hg
      go_enter Try.func22, Try.ntmps22
      go_wp2_with fail
      refine HB.out.mono ?_
      rintro e w1 ⟨⟨v, rfl, hev⟩, hs1, k1⟩
      obtain rfl := hev.nil_
      have HS1 := Lib.hid hs1
      have HK1 := Lib.hid k1
      clear hs1 k1 hev
      go_wp2_with fail
      refine (there_none HS1.out hle2 HG.out).mono ?_
      rintro e w2 ⟨⟨a, rfl, hch⟩, k2⟩
      have HCH := Lib.hid hch
      have HK2 := Lib.hid k2
      clear hch k2
      go_wp2_with fail
      go_ret
      exact After.fails (.inr ⟨(by decide : (7 : Int) ≠ 0), _, HCH.out⟩) (HS1.out.keeps HK2.out (fun _ _ => id)) rfl ((HK1.out.up HF.out).trans (Keeps.none_ HK2.out))
  · have hsync : syncP bad (L.map SRep.f) nm = (c, b', L.map SRep.f) := by
      unfold syncP
      rw [if_pos (by rw [← hc]; exact h0), ← hb', ← hc]
    rw [hsync]
    rw [← hc, ← hb'] at HB
    clear hsync hc hb'
    go_enter Try.func22, Try.ntmps22
    go_wp2_with fail
    refine HB.out.mono ?_
    rintro e w1 ⟨⟨v, rfl, hev⟩, hs1, k1⟩
    have HEV := Lib.hid hev
    obtain ⟨ty, x, rfl⟩ := hev.iface h0
    have HS1 := Lib.hid hs1
    have HK1 := Lib.hid k1
    clear hs1 k1 hev
    go_wp2_with fail
    go_ret
    exact After.fails HEV.out HS1.out rfl (HK1.out.up HF.out)

theorem del_f (nm : ByteArray) (L : List SRep) : (delG SRep.nm nm L).map SRep.f = delG SFile.name nm (L.map SRep.f) := delG_map nm_f nm L
set_option maxRecDepth 100000 in
set_option maxHeartbeats 1000000 in
/-- a file goes -/
theorem remove_any (h : StoreAt w F s most bad M L) (nm : ByteArray) (hb : bad ≤ 9223372036854775807) :
    Calls Try.prog 65 #[.pointer (some ⟨s, 0, none⟩), .string nm] w (After w F s most M (removeP bad (L.map SRep.f) nm)) := by
  have HB := Lib.hid (begin_any h nm hb)
  have hfs := h.fs
  have HF := Lib.hid hfs
  have HFM := Lib.hid h.fM
  clear h hfs
  obtain ⟨c, hc⟩ : ∃ c, c = (beginC bad nm).1 := ⟨_, rfl⟩
  obtain ⟨b', hb'⟩ : ∃ b', b' = (beginC bad nm).2 := ⟨_, rfl⟩
  by_cases h0 : c = 0
  · have hnm := begin_named (hc ▸ h0)
    have hle := (namedP_size hnm).2
    have hsync : removeP bad (L.map SRep.f) nm = match getG SFile.name nm (L.map SRep.f) with | none => (7, b', L.map SRep.f) | some _ => (0, b', delG SFile.name nm (L.map SRep.f)) := by
      unfold removeP
      rw [if_neg (by rw [← hc, h0]; simp), ← hb']
    rw [hsync, get_f]
    rw [← hc, ← hb', h0] at HB
    clear hsync hc hb' hnm h0
    have hle2 : nm.size ≤ maxLen := by unfold maxLen; omega
    cases hg : getG SRep.nm nm L with
    | some r =>
      simp only [Option.map_some]
      have HG := Lib.hid hg
      clear hg
      go_enter Try.func65, Try.ntmps65
      go_wp2_with fail
      refine HB.out.mono ?_
      rintro e w1 ⟨⟨v, rfl, hev⟩, hs1, k1⟩
      obtain rfl := hev.nil_
      have HS1 := Lib.hid hs1
      have HK1 := Lib.hid k1
      clear hs1 k1 hev
      go_wp2_with fail
      refine (there_some HS1.out hle2 HG.out).mono ?_
      rintro e w2 ⟨rfl, k2⟩
      have hs2 := HS1.out.keeps k2 (fun _ _ => id)
      obtain ⟨c0, c1, c2⟩ := hs2.top.cells3
      obtain ⟨w3, hrun, hs3, k3⟩ := hs2.del nm hle2 0
      have HS3 := Lib.hid hs3
      have HK2 := Lib.hid k2
      have HK3 := Lib.hid k3
      clear hs2 hs3 k2 k3
      go_wp2_with fail
      go_ret
      exact ⟨_, _, rfl, ErrV.ok, HS3.out.mono fun _ h => .inl h, del_f nm L, ((HK1.out.up HF.out).trans (Keeps.none_ HK2.out)).trans (HK3.out.mono fun i _ e => by rw [e]; exact HFM.out)⟩
    | none =>
      simp only [Option.map_none]
      have HG := Lib.hid hg
      clear hg
      go_enter Try.func65, Try.ntmps65
      go_wp2_with fail
      refine HB.out.mono ?_
      rintro e w1 ⟨⟨v, rfl, hev⟩, hs1, k1⟩
      obtain rfl := hev.nil_
      have HS1 := Lib.hid hs1
      have HK1 := Lib.hid k1
      clear hs1 k1 hev
      go_wp2_with fail
      refine (there_none HS1.out hle2 HG.out).mono ?_
      rintro e w2 ⟨⟨a, rfl, hch⟩, k2⟩
      have HCH := Lib.hid hch
      have HK2 := Lib.hid k2
      clear hch k2
      go_wp2_with fail
      go_ret
      exact After.fails (.inr ⟨(by decide : (7 : Int) ≠ 0), _, HCH.out⟩) (HS1.out.keeps HK2.out (fun _ _ => id)) rfl ((HK1.out.up HF.out).trans (Keeps.none_ HK2.out))
  · have hsync : removeP bad (L.map SRep.f) nm = (c, b', L.map SRep.f) := by
      unfold removeP
      rw [if_pos (by rw [← hc]; exact h0), ← hb', ← hc]
    rw [hsync]
    rw [← hc, ← hb'] at HB
    clear hsync hc hb'
    go_enter Try.func65, Try.ntmps65
    go_wp2_with fail
    refine HB.out.mono ?_
    rintro e w1 ⟨⟨v, rfl, hev⟩, hs1, k1⟩
    have HEV := Lib.hid hev
    obtain ⟨ty, x, rfl⟩ := hev.iface h0
    have HS1 := Lib.hid hs1
    have HK1 := Lib.hid k1
    clear hs1 k1 hev
    go_wp2_with fail
    go_ret
    exact After.fails HEV.out HS1.out rfl (HK1.out.up HF.out)
end
end Go.Proofs.Ytfbdpmeelejdhaa
