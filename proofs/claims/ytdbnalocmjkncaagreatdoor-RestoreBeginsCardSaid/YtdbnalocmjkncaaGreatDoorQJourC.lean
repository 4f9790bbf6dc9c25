/-
  journal: Reopen, New; law22's fine.
-/
import Derived.Test.YtdbnalocmjkncaaGreatDoorQJourB
import Derived.Test.YtdbnalocmjkncaaGreatDoorQGround2
namespace Go.Proofs.YtdbnalocmjkncaaGreatDoor
open Go.RowKit Go.Maps
variable [Res]

/-- the item that tells how many were lost -/
def gapI (now : Int) (lost : Nat) : Itm := ⟨3, now, str (dec lost)⟩
omit [Res] in
theorem gapI_ok {now : Int} {lost : Nat} (h : 0 ≤ now ∧ now ≤ 1099511627776) (hl : lost ≤ 1048576) : (gapI now lost).ok := by
  have := dec_le (n := (lost : Int)) (by omega) (by omega)
  exact ⟨⟨by show (1 : Int) ≤ 3; omega, by show (3 : Int) ≤ 15; omega⟩, h, by show (str (dec lost)).size ≤ 4096; rw [str_size]; omega⟩
section
variable {w0 w w' : World} {s M jb bad n k size lost : Nat} {most : Int} {L : List SRep} {base : ByteArray} {rest : Bool}
/-- behind Reopen -/
def Opened (w0 w : World) (s M jb : Nat) (most : Int) (bad : Nat) (l : List SFile) (n : Nat) (base : ByteArray) (k size : Nat) (rest : Bool) (lost : Nat) (R : Int × Nat × List SFile) (e : Ending) (w' : World) : Prop :=
  (∃ L', e = .returned (.bool true) ∧ rest = true ∧ 0 < lost ∧ R.1 = 0 ∧ Jour w0 w' s M jb most R.2.1 L' n base k size false 0 ∧ L'.map SRep.f = R.2.2 ∧ Keeps (fun i => w0.heap.size ≤ i ∧ JT w i) w w') ∨
  (∃ L', e = .returned (.bool false) ∧ rest = true ∧ 0 < lost ∧ R.1 ≠ 0 ∧ Jour w0 w' s M jb most R.2.1 L' n base k size true lost ∧ L'.map SRep.f = R.2.2 ∧ Keeps (fun i => w0.heap.size ≤ i ∧ JT w i) w w') ∨
  (∃ L', e = .returned (.bool true) ∧ ¬ (rest = true ∧ 0 < lost) ∧ Jour w0 w' s M jb most bad L' n base k size false 0 ∧ L'.map SRep.f = l ∧ Keeps (fun i => w0.heap.size ≤ i ∧ JT w i) w w')
set_option maxRecDepth 100000 in
theorem jnew (h : Sto w0 w s M most bad L n) (base : ByteArray) (hb : base.size ≤ 1048576) (k size : Nat) (hk : 1 ≤ k ∧ k ≤ 16) (hs : 64 ≤ size ∧ size ≤ 1048576) :
    Calls Tryz.prog 36 #[.pointer (some ⟨s, 0, none⟩), .string base, .int .i64 k, .int .i64 size] w fun e w' => (∃ jb, e = .returned (.tuple #[.pointer (some ⟨jb, 0, none⟩), .int .i64 0]) ∧ Jour w0 w' s M jb most bad L n base k size false 0) ∧ Keeps (fun _ => False) w w' := by
  have H := Lib.hid h
  obtain ⟨hk1, hk2⟩ := hk
  obtain ⟨hs1, hs2⟩ := hs
  have a1 : ¬ (k : Int) < 1 := by omega
  have a2 : ¬ (16 : Int) < k := by omega
  have a3 : ¬ (size : Int) < 64 := by omega
  have a4 : ¬ (1048576 : Int) < size := by omega
  clear h
  go_enter Tryz.func36, Tryz.ntmps36
  go_wp2_with fail
  go_ret2
  refine ⟨⟨w.heap.size, rfl, H.out.same (by (repeat (first | (with_reducible assumption) | (with_reducible exact Keeps.refl _ _) | refine Keeps.drew ?_ | refine Keeps.drewN ?_ _ | refine Keeps.setCell ?_ (by simp) _ | refine Keeps.setRow ?_ (by simp) _ | refine Keeps.alloc ?_ _))), Blk.new w _ _, H.out.keeps.size, ⟨hk1, hk2⟩, ⟨hs1, hs2⟩, hb, by omega⟩, by (repeat (first | (with_reducible assumption) | (with_reducible exact Keeps.refl _ _) | refine Keeps.drew ?_ | refine Keeps.drewN ?_ _ | refine Keeps.setCell ?_ (by simp) _ | refine Keeps.setRow ?_ (by simp) _ | refine Keeps.alloc ?_ _))⟩
omit [Res] in
set_option maxRecDepth 100000 in
theorem jnew_range (w : World) (s : Nat) (base : ByteArray) (size : Nat) :
    Calls Tryz.prog 36 #[.pointer (some ⟨s, 0, none⟩), .string base, .int .i64 0, .int .i64 size] w fun e w' => e = .returned (.tuple #[.pointer none, .int .i64 2]) ∧ w' = w := by
  go_enter Tryz.func36, Tryz.ntmps36
  go_wp2_with fail
  go_ret2
  exact ⟨rfl, rfl⟩
omit [Res] in
set_option maxRecDepth 100000 in
theorem jnew_nil (w : World) (base : ByteArray) (k size : Int) :
    Calls Tryz.prog 36 #[.pointer none, .string base, .int .i64 k, .int .i64 size] w fun e w' => e = .returned (.tuple #[.pointer none, .int .i64 14]) ∧ w' = w := by
  go_enter Tryz.func36, Tryz.ntmps36
  go_wp2_with fail
  go_ret2
  exact ⟨rfl, rfl⟩
end
end Go.Proofs.YtdbnalocmjkncaaGreatDoor
