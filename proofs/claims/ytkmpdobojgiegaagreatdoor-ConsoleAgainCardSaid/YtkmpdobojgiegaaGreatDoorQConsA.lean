/-
  A console in memory, with its footprint; made, Name, Past, Seat, Log.
-/
import Derived.Test.YtkmpdobojgiegaaGreatDoorQGround3
import Derived.Test.YtkmpdobojgiegaaGreatDoorQGround4
namespace Go.Proofs.YtkmpdobojgiegaaGreatDoor
open Go.RowKit

/-- the part k of a footprint -/
def Pt (F : Nat → Prop) (tag : Nat → Nat) (k : Nat) (i : Nat) : Prop := F i ∧ tag i = k
/-- new blocks belong to the part k -/
def tagE (tag : Nat → Nat) (w : World) (k : Nat) (i : Nat) : Nat := if i < w.heap.size then tag i else k
/-- a console, plainly: its settings, its line, who is there, all that was told, its log -/
structure Cns where
  c : Con
  m : Ln
  s : Sea
  past : List UInt8
  rest : Bool
  lost : Nat
def baseOf (c : Con) : ByteArray := c.name ++ ⟨#[46, 108, 111, 103]⟩
def consC (c : Con) (lb sb pb jb : Nat) : Array Value :=
  #[.pointer (some ⟨lb, 0, none⟩), .string c.name, .int .i64 c.kind, .int .i64 c.lines, .int .i64 c.bytes, .int .i64 c.gens, .int .i64 c.size, .int .i64 c.base, .int .i64 c.cap, .int .i64 c.jitter, .string c.init, .pointer (some ⟨sb, 0, none⟩), .pointer (some ⟨pb, 0, none⟩), .pointer (some ⟨jb, 0, none⟩)]
/-- a console at xb over a store at st, made of the blocks of F -/
structure ConsV (w : World) (F : Nat → Prop) (tag : Nat → Nat) (xb st : Nat) (x : Cns) (lb sb pb g b jb : Nat) : Prop where
  top : Blk w xb 60 (consC x.c lb sb pb jb)
  line : LineAt w (Pt F tag 1) lb x.m
  seat : SeatAt w (Pt F tag 2) sb x.s
  past : IsPast w pb g b 32768 x.past
  log : JourB w jb st (baseOf x.c) x.c.gens.toNat x.c.size.toNat x.rest x.lost
  pp : Pt F tag 3 pb ∧ Pt F tag 3 g ∧ Pt F tag 3 b
  pj : Pt F tag 4 jb
  px : Pt F tag 5 xb
  inn : In F w
  ok : LnOk x.m
section
variable {w0 w w' : World} {F G S FT : Nat → Prop} {tag : Nat → Nat} {xb st lb sb pb g b jb n : Nat} {x : Cns} {most : Int} {bad : Nat} {l : List SFile}
theorem Pt.old {k j : Nat} {i : Nat} (hF : In F w) (h : Pt F tag k i) : Pt (Ext F w w') (tagE tag w j) k i := ⟨.inl h.1, by unfold tagE; rw [if_pos (hF i h.1)]; exact h.2⟩
theorem Pt.ext {k : Nat} {i : Nat} (hF : In F w) (h : Ext (Pt F tag k) w w' i) : Pt (Ext F w w') (tagE tag w k) k i := by
  rcases h with h | h
  · exact h.old hF
  · exact ⟨.inr h, by unfold tagE; rw [if_neg (by omega)]⟩
theorem In.pt {k : Nat} (h : In F w) : In (Pt F tag k) w := fun i hi => h i hi.1
theorem Pt.ne {j k : Nat} {i : Nat} (h : Pt F tag j i) (hjk : j ≠ k) : ¬ Pt F tag k i := fun e => hjk (h.2.symm.trans e.2)
theorem ConsV.keeps (h : ConsV w F tag xb st x lb sb pb g b jb) (k : Keeps S w w') (hS : ∀ i, F i → ¬ S i) : ConsV w' F tag xb st x lb sb pb g b jb :=
  ⟨h.top.keeps k (hS _ h.px.1), h.line.keeps k (fun i hi => hS i hi.1), h.seat.keeps k (fun i hi => hS i hi.1), h.past.keeps k (hS _ h.pp.1.1) (hS _ h.pp.2.1.1) (hS _ h.pp.2.2.1), h.log.keeps k (hS _ h.pj.1), h.pp, h.pj, h.px, h.inn.later k, h.ok⟩
/-- the line acted -/
theorem ConsV.lined (h : ConsV w F tag xb st x lb sb pb g b jb) {m : Ln} (hl : LineAt w' (Ext (Pt F tag 1) w w') lb m) (k : Keeps (Pt F tag 1) w w') (ok : LnOk m) : ConsV w' (Ext F w w') (tagE tag w 1) xb st { x with m := m } lb sb pb g b jb :=
  ⟨h.top.keeps k (h.px.ne (by decide)), hl.mono (fun i hi => Pt.ext h.inn hi) (h.inn.ext k.size).pt, (h.seat.keeps k (fun i hi => hi.ne (by decide))).mono (fun i hi => hi.old h.inn) (h.inn.ext k.size).pt, h.past.keeps k (h.pp.1.ne (by decide)) (h.pp.2.1.ne (by decide)) (h.pp.2.2.ne (by decide)), h.log.keeps k (h.pj.ne (by decide)), ⟨h.pp.1.old h.inn, h.pp.2.1.old h.inn, h.pp.2.2.old h.inn⟩, h.pj.old h.inn, h.px.old h.inn, h.inn.ext k.size, ok⟩
/-- who is there acted -/
theorem ConsV.seated (h : ConsV w F tag xb st x lb sb pb g b jb) {s : Sea} (hl : SeatAt w' (Ext (Pt F tag 2) w w') sb s) (k : Keeps (Pt F tag 2) w w') : ConsV w' (Ext F w w') (tagE tag w 2) xb st { x with s := s } lb sb pb g b jb :=
  ⟨h.top.keeps k (h.px.ne (by decide)), (h.line.keeps k (fun i hi => hi.ne (by decide))).mono (fun i hi => hi.old h.inn) (h.inn.ext k.size).pt, hl.mono (fun i hi => Pt.ext h.inn hi) (h.inn.ext k.size).pt, h.past.keeps k (h.pp.1.ne (by decide)) (h.pp.2.1.ne (by decide)) (h.pp.2.2.ne (by decide)), h.log.keeps k (h.pj.ne (by decide)), ⟨h.pp.1.old h.inn, h.pp.2.1.old h.inn, h.pp.2.2.old h.inn⟩, h.pj.old h.inn, h.px.old h.inn, h.inn.ext k.size, h.ok⟩
/-- something was told -/
theorem ConsV.told (h : ConsV w F tag xb st x lb sb pb g b jb) {A : List UInt8} (hp : IsPast w' pb g b 32768 A) (k : Keeps (fun i => i = pb ∨ i = g ∨ i = b) w w') : ConsV w' F tag xb st { x with past := A } lb sb pb g b jb := by
  have hk : Keeps (Pt F tag 3) w w' := k.mono fun i _ e => by rcases e with rfl | rfl | rfl; exact h.pp.1; exact h.pp.2.1; exact h.pp.2.2
  exact ⟨h.top.keeps hk (h.px.ne (by decide)), h.line.keeps hk (fun i hi => hi.ne (by decide)), h.seat.keeps hk (fun i hi => hi.ne (by decide)), hp, h.log.keeps hk (h.pj.ne (by decide)), h.pp, h.pj, h.px, h.inn.later hk, h.ok⟩
/-- the log acted -/
theorem ConsV.logged (h : ConsV w F tag xb st x lb sb pb g b jb) {rest : Bool} {lost : Nat} (hj : JourB w' jb st (baseOf x.c) x.c.gens.toNat x.c.size.toNat rest lost) (k : Keeps (fun i => FT i ∨ i = jb) w w') (hap : Apart F FT) : ConsV w' F tag xb st { x with rest := rest, lost := lost } lb sb pb g b jb := by
  have hn : ∀ {j i : Nat}, Pt F tag j i → j ≠ 4 → ¬ (FT i ∨ i = jb) := fun {j i} hi hne e => by
    rcases e with e | e
    · exact hap i hi.1 e
    · subst e; exact hne (hi.2.symm.trans h.pj.2)
  exact ⟨h.top.keeps k (hn h.px (by decide)), h.line.keeps k (fun i hi => hn hi (by decide)), h.seat.keeps k (fun i hi => hn hi (by decide)), h.past.keeps k (hn h.pp.1 (by decide)) (hn h.pp.2.1 (by decide)) (hn h.pp.2.2 (by decide)), hj, h.pp, h.pj, h.px, h.inn.later k, h.ok⟩
theorem ConsV.logF (h : ConsV w F tag xb st x lb sb pb g b jb) (hS : StoF w0 w FT st most bad l n) (hlo : ∀ i, F i → w0.heap.size ≤ i) : LogF w0 w FT st jb most (baseOf x.c) x.c.gens.toNat x.c.size.toNat ⟨bad, l, x.rest, x.lost⟩ n := ⟨hS, h.log, hlo _ h.pj.1⟩
theorem ConsV.cells (h : ConsV w F tag xb st x lb sb pb g b jb) : w.cell? ⟨xb, 0, none⟩ = some (.pointer (some ⟨lb, 0, none⟩)) ∧ w.cell? ⟨xb, 1, none⟩ = some (.string x.c.name) ∧ w.cell? ⟨xb, 11, none⟩ = some (.pointer (some ⟨sb, 0, none⟩)) ∧ w.cell? ⟨xb, 12, none⟩ = some (.pointer (some ⟨pb, 0, none⟩)) ∧ w.cell? ⟨xb, 13, none⟩ = some (.pointer (some ⟨jb, 0, none⟩)) :=
  ⟨h.top.cell 0, h.top.cell 1, h.top.cell 11, h.top.cell 12, h.top.cell 13⟩
set_option maxRecDepth 100000 in
theorem cmade (h : ConsV w F tag xb st x lb sb pb g b jb) : Calls Tryz.prog 61 #[.pointer (some ⟨xb, 0, none⟩)] w fun e w' => e = .returned (.bool true) ∧ w' = w := by
  obtain ⟨c0, c1, c2, c3, c4⟩ := h.cells
  clear h
  go_enter Tryz.func61, Tryz.ntmps61
  go_wp2_with fail
  go_ret
  exact ⟨rfl, rfl⟩
set_option maxRecDepth 100000 in
theorem cpast (h : ConsV w F tag xb st x lb sb pb g b jb) : Calls Tryz.prog 21 #[.pointer (some ⟨xb, 0, none⟩)] w fun e w' => e = .returned (.pointer (some ⟨pb, 0, none⟩)) ∧ w' = w := by
  have HM := Lib.hid (cmade h)
  obtain ⟨c0, c1, c2, c3, c4⟩ := h.cells
  clear h
  go_enter Tryz.func21, Tryz.ntmps21
  go_wp2_with fail
  refine HM.out.mono ?_
  rintro e w2 ⟨rfl, hw⟩
  obtain rfl : w = w2 := hw.symm
  go_wp2_with fail
  go_ret
  exact ⟨rfl, rfl⟩
set_option maxRecDepth 100000 in
theorem cseat (h : ConsV w F tag xb st x lb sb pb g b jb) : Calls Tryz.prog 24 #[.pointer (some ⟨xb, 0, none⟩)] w fun e w' => e = .returned (.pointer (some ⟨sb, 0, none⟩)) ∧ w' = w := by
  have HM := Lib.hid (cmade h)
  obtain ⟨c0, c1, c2, c3, c4⟩ := h.cells
  clear h
  go_enter Tryz.func24, Tryz.ntmps24
  go_wp2_with fail
  refine HM.out.mono ?_
  rintro e w2 ⟨rfl, hw⟩
  obtain rfl : w = w2 := hw.symm
  go_wp2_with fail
  go_ret
  exact ⟨rfl, rfl⟩
set_option maxRecDepth 100000 in
theorem clog (h : ConsV w F tag xb st x lb sb pb g b jb) : Calls Tryz.prog 28 #[.pointer (some ⟨xb, 0, none⟩)] w fun e w' => e = .returned (.pointer (some ⟨jb, 0, none⟩)) ∧ w' = w := by
  have HM := Lib.hid (cmade h)
  obtain ⟨c0, c1, c2, c3, c4⟩ := h.cells
  clear h
  go_enter Tryz.func28, Tryz.ntmps28
  go_wp2_with fail
  refine HM.out.mono ?_
  rintro e w2 ⟨rfl, hw⟩
  obtain rfl : w = w2 := hw.symm
  go_wp2_with fail
  go_ret
  exact ⟨rfl, rfl⟩
set_option maxRecDepth 100000 in
theorem cname (h : ConsV w F tag xb st x lb sb pb g b jb) : Calls Tryz.prog 38 #[.pointer (some ⟨xb, 0, none⟩)] w fun e w' => e = .returned (.string x.c.name) ∧ w' = w := by
  have HM := Lib.hid (cmade h)
  obtain ⟨c0, c1, c2, c3, c4⟩ := h.cells
  clear h
  go_enter Tryz.func38, Tryz.ntmps38
  go_wp2_with fail
  refine HM.out.mono ?_
  rintro e w2 ⟨rfl, hw⟩
  obtain rfl : w = w2 := hw.symm
  go_wp2_with fail
  go_ret
  exact ⟨rfl, rfl⟩
/-- why somebody may not write; 0: they may -/
def writesC (s : Sea) (who : Int) : Int := if s.wr ≠ -1 ∧ s.wr = who then 0 else 10
set_option maxRecDepth 100000 in
theorem cwrites (h : ConsV w F tag xb st x lb sb pb g b jb) (who : Int) : Calls Tryz.prog 78 #[.pointer (some ⟨xb, 0, none⟩), .int .i64 who] w fun e w' => e = .returned (.int .i64 (writesC x.s who)) ∧ w' = w := by
  have HM := Lib.hid (cmade h)
  have HW := Lib.hid (swriter h.seat)
  obtain ⟨c0, c1, c2, c3, c4⟩ := h.cells
  clear h
  obtain ⟨wr, hwr⟩ : ∃ wr, wr = x.s.wr := ⟨_, rfl⟩
  unfold writesC
  rw [← hwr] at HW ⊢
  clear hwr
  by_cases h1 : wr = -1
  · rw [if_pos h1, h1] at HW
    rw [if_neg (fun e => e.1 h1)]
    clear h1
    go_enter Tryz.func78, Tryz.ntmps78
    go_wp2_with fail
    refine HM.out.mono ?_
    rintro e w2 ⟨rfl, hw⟩
    obtain rfl : w = w2 := hw.symm
    go_wp2_with fail
    refine HW.out.mono ?_
    rintro e w2 ⟨rfl, hw⟩
    obtain rfl : w = w2 := hw.symm
    go_wp2_with fail
    go_ret
    exact ⟨rfl, rfl⟩
  · rw [if_neg h1, decide_eq_true h1] at HW
    by_cases h2 : wr = who
    · rw [if_pos ⟨h1, h2⟩]
      have hb : (wr != who) = false := by simp [h2]
      clear h1 h2
      go_enter Tryz.func78, Tryz.ntmps78
      go_wp2_with fail
      refine HM.out.mono ?_
      rintro e w2 ⟨rfl, hw⟩
      obtain rfl : w = w2 := hw.symm
      go_wp2_with fail
      refine HW.out.mono ?_
      rintro e w2 ⟨rfl, hw⟩
      obtain rfl : w = w2 := hw.symm
      go_wp2_with fail
      go_ret
      exact ⟨rfl, rfl⟩
    · rw [if_neg (fun e => h2 e.2)]
      have hb : (wr != who) = true := by simpa using h2
      clear h1 h2
      go_enter Tryz.func78, Tryz.ntmps78
      go_wp2_with fail
      refine HM.out.mono ?_
      rintro e w2 ⟨rfl, hw⟩
      obtain rfl : w = w2 := hw.symm
      go_wp2_with fail
      refine HW.out.mono ?_
      rintro e w2 ⟨rfl, hw⟩
      obtain rfl : w = w2 := hw.symm
      go_wp2_with fail
      go_ret
      exact ⟨rfl, rfl⟩
end
end Go.Proofs.YtkmpdobojgiegaaGreatDoor
