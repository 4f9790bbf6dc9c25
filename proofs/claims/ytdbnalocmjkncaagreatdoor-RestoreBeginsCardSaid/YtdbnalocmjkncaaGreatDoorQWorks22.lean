/-
  works of law22: true, and only new blocks.
-/
import Derived.Test.YtdbnalocmjkncaaGreatDoorQJourC
import Derived.Test.YtdbnalocmjkncaaGreatDoorQRecJ
namespace Go.Proofs.YtdbnalocmjkncaaGreatDoor
open Go.RowKit Go.Maps

abbrev jLog : ByteArray := ⟨#[108, 111, 103]⟩
abbrev jLog1 : ByteArray := ⟨#[108, 111, 103, 46, 49]⟩
def x10 : Itm := ⟨1, 0, ⟨#[48, 49, 50, 51, 52, 53, 54, 55, 56, 57]⟩⟩
def x1 : Itm := ⟨1, 0, ⟨#[120]⟩⟩
def y1 : Itm := ⟨1, 0, ⟨#[121]⟩⟩
def g9 : Itm := ⟨3, 9, ⟨#[50]⟩⟩
def B10 : ByteArray := str (recP x10)
def G9 : ByteArray := str (recP g9)
theorem x10_ok : x10.ok := ⟨⟨by decide, by decide⟩, ⟨by decide, by decide⟩, by decide⟩
theorem x1_ok : x1.ok := ⟨⟨by decide, by decide⟩, ⟨by decide, by decide⟩, by decide⟩
theorem y1_ok : y1.ok := ⟨⟨by decide, by decide⟩, ⟨by decide, by decide⟩, by decide⟩
theorem g9_ok : g9.ok := ⟨⟨by decide, by decide⟩, ⟨by decide, by decide⟩, by decide⟩
theorem gap9 : gapI 9 2 = g9 := by unfold gapI; rw [dec_pos (by omega), show ((2 : Nat) : Int).toNat = 2 from rfl, decN_small (by decide)]; rfl
theorem jL0 : genName jLog ((0 : Nat) : Int) = jLog := genName_zero (by omega)
theorem jL1 : genName jLog ((1 : Nat) : Int) = jLog1 := by rw [genName_pos (by omega), dec_pos (by omega), decN_small (by decide)]; rfl
theorem putA : putP 1000 jLog 2 64 0 [] B10 = (0, 0, [⟨jLog, B10, 0⟩]) := by kernel_rfl
theorem putB : putP 1000 jLog 2 64 0 [⟨jLog, B10, 0⟩] B10 = (0, 0, [⟨jLog, B10 ++ B10, 0⟩]) := by kernel_rfl
def l3 : List SFile := [⟨jLog, B10, 0⟩, ⟨jLog1, B10 ++ B10, 48⟩]
def l4 : List SFile := [⟨jLog, B10 ++ G9, 0⟩, ⟨jLog1, B10 ++ B10, 48⟩]
theorem turnC : turnedP jLog 2 0 [⟨jLog, B10 ++ B10, 0⟩] = (0, 0, [⟨jLog1, B10 ++ B10, 48⟩]) := by
  unfold turnedP
  rw [show syncP 0 [⟨jLog, B10 ++ B10, 0⟩] jLog = (0, 0, [⟨jLog, B10 ++ B10, 48⟩]) from by kernel_rfl, if_neg (by simp)]
  have h1 : goneP jLog 1 0 [⟨jLog, B10 ++ B10, 48⟩] = (0, 0, [⟨jLog, B10 ++ B10, 48⟩]) := by unfold goneP genF; rw [jL1]; kernel_rfl
  show turnP jLog 1 0 [⟨jLog, B10 ++ B10, 48⟩] = _
  unfold turnP
  rw [h1, if_neg (by simp)]
  rw [turnL_cons_some (base := jLog) (j := 0) (bad := 0) (l := [⟨jLog, B10 ++ B10, 48⟩]) (f := ⟨jLog, B10 ++ B10, 48⟩) (x := (0, 0, [⟨jLog1, B10 ++ B10, 48⟩])) (by unfold genF; rw [jL0]; rfl) (by rw [jL0, jL1]; kernel_rfl), if_neg (by simp)]
  rfl
theorem putC : putP 1000 jLog 2 64 0 [⟨jLog, B10 ++ B10, 0⟩] B10 = (0, 0, l3) := by
  unfold putP
  rw [turnC, if_pos (by decide +kernel), if_neg (by simp)]
  kernel_rfl
theorem putD (b : ByteArray) (hb : b.size = 15) : putP 1000 jLog 2 64 1 l3 b = (12, 0, l3) := by
  unfold putP
  rw [if_neg (by rw [hb]; decide +kernel)]
  unfold appendP
  rw [show beginC 1 jLog = (12, 0) from by kernel_rfl, if_pos (by simp)]
theorem putE : putP 1000 jLog 2 64 0 l3 G9 = (0, 0, l4) := by kernel_rfl
theorem syncE : (syncP 0 l4 jLog).1 = 0 := by kernel_rfl
theorem scanE : scanI (B10 ++ G9).data.toList = [x10, g9] := by
  have h := scan_flat (xs := [x10, g9]) (by intro x hx; simp only [List.mem_cons, List.not_mem_nil, or_false] at hx; rcases hx with rfl | rfl; exact x10_ok; exact g9_ok) []
  rw [List.append_nil, scan_nil, List.append_nil] at h
  rw [← h]
  congr 1
section
variable [Res] {w0 w w' : World} {s M jb bad n k size lost : Nat} {most : Int} {L : List SRep} {base : ByteArray} {rest : Bool}
/-- an item is taken -/
theorem jadd_ok (h : Jour w0 w s M jb most bad L n base k size false lost) (hn : n ≤ 999000) (hbn : base.size ≤ 64) (hll : lost ≤ 1000000) (x : Itm) (hx : x.ok) {b' : Nat} {l' : List SFile} (hR : putP most base k size bad (L.map SRep.f) (str (recP x)) = (0, b', l')) :
    Calls Tryz.prog 37 #[.pointer (some ⟨jb, 0, none⟩), itmV x] w fun e w' => ∃ L', e = .returned (.bool true) ∧ Jour w0 w' s M jb most b' L' (n + 19) base k size false lost ∧ L'.map SRep.f = l' := by
  have ha := jadd h hn hbn hll x hx
  rw [hR] at ha
  refine ha.mono ?_
  rintro e w1 (⟨L', he, -, h0, hJ, hl, -⟩ | ⟨L', he, -, h0, -⟩ | ⟨L', he, hr, -⟩)
  · exact ⟨L', he, hJ, hl⟩
  · exact absurd rfl h0
  · cases hr
/-- .. and is not, for the store fails -/
theorem jadd_no (h : Jour w0 w s M jb most bad L n base k size false lost) (hn : n ≤ 999000) (hbn : base.size ≤ 64) (hll : lost ≤ 1000000) (x : Itm) (hx : x.ok) {c : Int} {b' : Nat} {l' : List SFile} (hR : putP most base k size bad (L.map SRep.f) (str (recP x)) = (c, b', l')) (hc : c ≠ 0) :
    Calls Tryz.prog 37 #[.pointer (some ⟨jb, 0, none⟩), itmV x] w fun e w' => ∃ L', e = .returned (.bool false) ∧ Jour w0 w' s M jb most b' L' (n + 19) base k size true (lost + 1) ∧ L'.map SRep.f = l' := by
  have ha := jadd h hn hbn hll x hx
  rw [hR] at ha
  refine ha.mono ?_
  rintro e w1 (⟨L', he, -, h0, -⟩ | ⟨L', he, -, h0, hJ, hl, -⟩ | ⟨L', he, hr, -⟩)
  · exact absurd h0 hc
  · exact ⟨L', he, hJ, hl⟩
  · cases hr
/-- .. or for it rests -/
theorem jadd_rest (h : Jour w0 w s M jb most bad L n base k size true lost) (hn : n ≤ 999000) (hbn : base.size ≤ 64) (hll : lost ≤ 1000000) (x : Itm) (hx : x.ok) :
    Calls Tryz.prog 37 #[.pointer (some ⟨jb, 0, none⟩), itmV x] w fun e w' => ∃ L', e = .returned (.bool false) ∧ Jour w0 w' s M jb most bad L' (n + 19) base k size true (lost + 1) ∧ L'.map SRep.f = L.map SRep.f := by
  refine (jadd h hn hbn hll x hx).mono ?_
  rintro e w1 (⟨L', he, hr, -⟩ | ⟨L', he, hr, -⟩ | ⟨L', he, -, hJ, hl, -⟩)
  · cases hr
  · cases hr
  · exact ⟨L', he, hJ, hl⟩
/-- the next calls of its store fail -/
theorem jfail (h : Jour w0 w s M jb most bad L n base k size rest lost) (q : Int) (hq : q ≤ 9223372036854775807) : Calls Tryz.prog 9 #[.pointer (some ⟨s, 0, none⟩), .int .i64 q] w fun e w' => ∃ L', e = .returned (.tuple #[]) ∧ Jour w0 w' s M jb most q.toNat L' n base k size rest lost ∧ L'.map SRep.f = L.map SRep.f ∧ Keeps (fun i => w0.heap.size ≤ i ∧ StR w i) w w' := by
  refine (sfail h.sto q hq).mono ?_
  rintro e w1 ⟨L', he, hS, hl, kk⟩
  exact ⟨L', he, h.move hS kk, hl, kk⟩
end
attribute [local instance] noRes
end Go.Proofs.YtdbnalocmjkncaaGreatDoor
