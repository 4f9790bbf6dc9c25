/-
  console: New's last step; the stages of New.
-/
import Derived.Test.YtkmpdobojgiegaaGreatDoorQConsG
namespace Go.Proofs.YtkmpdobojgiegaaGreatDoor
open Go.RowKit Go.Maps

/-- blocks from one on up to another one -/
def Rng (a b : Nat) (i : Nat) : Prop := a ≤ i ∧ i < b
/-- whose block it is, by when it was made -/
def tagN (s0 s1 s2 s3 : Nat) (i : Nat) : Nat := if i < s0 then 5 else if i < s1 then 1 else if i < s2 then 2 else if i < s3 then 4 else 3
/-- why there is no console; how many calls fail, the files, the past behind New -/
def newC (c : Con) (mostS : Int) (bad : Nat) (l : List SFile) : Int × Nat × List SFile × List UInt8 :=
  if lineC0 c ≠ 0 then (lineC0 c, bad, l, []) else if seatC0 mostS ≠ 0 then (seatC0 mostS, bad, l, []) else if logC0 c ≠ 0 then (logC0 c, bad, l, []) else againC c bad l
section
variable {w0 w w' : World} {FT : Nat → Prop} {xb x8 e9 st pb g b n bad : Nat} {most : Int} {l : List SFile} {c : Con} {lv sv pv jv : Value} {e0 : Int}
set_option maxRecDepth 100000 in
theorem cnew5 (h : Mk w xb x8 e9 c lv sv (.pointer (some ⟨pb, 0, none⟩)) jv e0) (b4 : Nat) (hb4 : Blk w b4 25 #[.pointer (some ⟨st, 0, none⟩)])
    (hp : IsPast w pb g b 32768 []) (hS : StoF w0 w FT st most bad l n) (hn : n ≤ 1000000) (hF : ¬ FT xb ∧ ¬ FT x8 ∧ ¬ FT e9) (hpp : ¬ FT pb ∧ ¬ FT g ∧ ¬ FT b) (hx2 : ∀ i, i = xb ∨ i = x8 ∨ i = e9 → i ≠ pb ∧ i ≠ g ∧ i ≠ b) (hlo : w0.heap.size ≤ pb ∧ w0.heap.size ≤ g ∧ w0.heap.size ≤ b) (he9 : w0.heap.size ≤ e9) (hnm : c.name.size ≤ 1048000)
    (hlen : (itemsC c l).length ≤ 1048576) (hz : ∀ x ∈ itemsC c l, x.body.size ≤ 1048576) :
    Calls Tryz.prog 48 #[.pointer (some ⟨x8, 0, none⟩), .pointer (some ⟨b4, 0, none⟩), .pointer (some ⟨e9, 0, none⟩)] w fun e w' =>
    e = .returned (.tuple #[]) ∧ Mk w' xb x8 e9 c lv sv (.pointer (some ⟨pb, 0, none⟩)) jv (againC c bad l).1 ∧ IsPast w' pb g b 32768 (againC c bad l).2.2.2 ∧ StoF w0 w' (Ext FT w w') st most (againC c bad l).2.1 (againC c bad l).2.2.1 (n + 17) ∧ Keeps (fun i => FT i ∨ i = pb ∨ i = g ∨ i = b ∨ i = e9) w w' := by
  have HA := Lib.hid (cagain h.t hp hS hn hF.1 hpp (hx2 xb (.inl rfl)) hlo hnm hlen hz)
  have HM := Lib.hid h
  have HF := Lib.hid (And.intro hF (And.intro hpp (And.intro hx2 he9)))
  have HS := Lib.hid hS
  obtain ⟨⟨c0, -, -⟩, -, -, -, -⟩ := h.cells
  have y0 := hb4.cell 0
  simp only [List.getElem?_toArray, List.getElem?_cons_zero] at y0
  obtain ⟨R, hR⟩ : ∃ R, R = againC c bad l := ⟨_, rfl⟩
  rw [← hR] at HA ⊢
  clear h hb4 hp hS hn hF hpp hx2 hlo hnm hlen hz hR
  go_enter Tryz.func48, Tryz.ntmps48
  go_wp2_with fail
  refine HA.out.mono ?_
  rintro e w2 ⟨rfl, hp2, hS2, k2⟩
  obtain ⟨⟨f1, f2, f3⟩, ⟨p1, p2, p3⟩, hx2, he9⟩ := HF.out
  have hn : ∀ i, i = xb ∨ i = x8 ∨ i = e9 → ¬ (FT i ∨ i = pb ∨ i = g ∨ i = b) := fun i hi e => by
    have h1 := hx2 i hi
    rcases e with e | e | e | e
    · rcases hi with rfl | rfl | rfl
      · exact f1 e
      · exact f2 e
      · exact f3 e
    · exact h1.1 e
    · exact h1.2.1 e
    · exact h1.2.2 e
  have hM2 := HM.out.keeps k2 (hn _ (.inl rfl)) (hn _ (.inr (.inl rfl))) (hn _ (.inr (.inr rfl)))
  obtain ⟨⟨d0, d1, d2⟩, -, -, -, -⟩ := hM2.cells
  have HM2 := Lib.hid hM2
  have HP2 := Lib.hid hp2
  have HS2 := Lib.hid hS2
  have HK2 := Lib.hid k2
  clear f1 f2 f3 p1 p2 p3 hx2 he9 hn hM2 hp2 hS2 k2 c0 y0
  go_wp2_with fail
  refine bodyPost_end (results_none rfl _ _ _) rfl ?_
  obtain ⟨⟨f1, f2, f3⟩, ⟨p1, p2, p3⟩, hx2, he9⟩ := HF.out
  have kE : Keeps (fun i => i = e9) w2 (w2.setCell ⟨e9, 0, none⟩ (.int .i64 R.1)) := (Keeps.refl (fun i => i = e9) w2).setCell (p := ⟨e9, 0, none⟩) (fun _ => rfl) _
  have h3 := hx2 e9 (.inr (.inr rfl))
  have hne1 : xb ≠ e9 := Blk.ne_ HM2.out.t HM2.out.e (by decide)
  have hne2 : x8 ≠ e9 := Blk.ne_ HM2.out.x HM2.out.e (by decide)
  have hlt := HM.out.e.lt
  refine ⟨rfl, ⟨HM2.out.x.keeps kE hne2, HM2.out.e.set_ 0 _, HM2.out.t.keeps kE hne1⟩, HP2.out.keeps kE (fun e => h3.1 e.symm) (fun e => h3.2.1 e.symm) (fun e => h3.2.2 e.symm), ?_, ((HK2.out.mono fun i _ e => ?_)).trans (kE.mono fun i _ e => .inr (.inr (.inr (.inr e))))⟩
  · refine (HS2.out.keeps kE (fun i hi e => ?_) (fun i hi e => by have e : i = e9 := e; omega)).mono (fun i hi => hi.imp (fun h => h) (fun e => ⟨e.1, Nat.lt_of_lt_of_le e.2 kE.size⟩)) (fun i hi => ⟨hi.elim (fun e => HS.out.lo i e) (fun e => Nat.le_trans HS.out.from_.size e.1), hi.elim (fun e => Nat.lt_of_lt_of_le (HS.out.inn i e) (Nat.le_trans HK2.out.size kE.size)) (·.2)⟩)
    have e : i = e9 := e
    subst e
    rcases hi with hi | hi
    · exact f3 hi
    · have := hi.1; omega
  · rcases e with e | e | e | e
    · exact .inl e
    · exact .inr (.inl e)
    · exact .inr (.inr (.inl e))
    · exact .inr (.inr (.inr (.inl e)))
end
end Go.Proofs.YtkmpdobojgiegaaGreatDoor
