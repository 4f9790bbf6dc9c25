/-
  works of law33, plainly: what each step leaves. No program in sight.
-/
import Derived.Test.YtkmpdobojgiegaaGreatDoorQSam33
namespace Go.Proofs.YtkmpdobojgiegaaGreatDoor
open Go.RowKit Go.Maps

def c33 : Con := ⟨⟨#[108, 111, 103]⟩, 1, 2, 101, 2, 64, 1, 4, 0, ⟨#[]⟩⟩
def B33 : ByteArray := ⟨#[108, 111, 103, 46, 108, 111, 103]⟩
def B331 : ByteArray := ⟨#[108, 111, 103, 46, 108, 111, 103, 46, 49]⟩
def z33 : Con := ⟨⟨#[]⟩, 0, 1, 100, 0, 0, 0, 0, 0, ⟨#[]⟩⟩
def z330 : Con := ⟨⟨#[]⟩, 0, 0, 0, 0, 0, 0, 0, 0, ⟨#[]⟩⟩
def S33 : List UInt8 := [97, 98, 10, 99, 100, 10, 101, 102]
def I33 : Itm := ⟨1, 2, str S33⟩
theorem sam33 : sampleC z33 = c33 := by kernel_rfl
theorem base33 : baseOf c33 = B33 := by kernel_rfl
theorem line33 : lineC0 c33 = 0 := by kernel_rfl
theorem line330 : lineC0 z330 = 2 := by kernel_rfl
theorem I33_ok : I33.ok := ⟨⟨by decide, by decide⟩, ⟨by decide, by decide⟩, by decide⟩
theorem g330 : genName B33 ((0 : Nat) : Int) = B33 := genName_zero (by omega)
theorem g331 : genName B33 ((1 : Nat) : Int) = B331 := by rw [genName_pos (by omega), dec_pos (by omega), decN_small (by decide)]; rfl
theorem all330 : allP [] B33 2 = [] := by
  rw [allP_succ, allP_succ]
  unfold genF
  rw [g331, g330]
  rfl
theorem allP_nil (base : ByteArray) : ∀ k, allP [] base k = []
  | 0 => rfl
  | k + 1 => by rw [allP_succ, allP_nil base k]; rfl
theorem items_nil (c : Con) : itemsC c [] = [] := by unfold itemsC; rw [allP_nil]; rfl
theorem items330 : itemsC c33 [] = [] := by
  unfold itemsC
  rw [base33, show heldP c33.gens = 2 from rfl, all330]
  rfl
theorem again330 : againC c33 0 [] = (0, 0, [], []) := by
  unfold againC
  rw [items330, base33]
  kernel_rfl
theorem new330 : newC c33 9 0 [] = (0, 0, [], []) := by
  unfold newC
  rw [line33, if_neg (by decide), if_neg (by decide), if_neg (by decide), again330]
theorem new331 (l : List SFile) : newC z330 9 0 l = (2, 0, l, []) := by
  unfold newC
  rw [line330, if_pos (by decide)]
def x330 : Cns := ⟨c33, lnOf c33, Sea.new 9, [], false, 0⟩
theorem early33 : cameC 1000 1 0 [] x330 [101, 97, 114, 108, 121] = (x330, ⟨0, [], false, 0⟩, false) := by unfold cameC; rw [if_pos (.inl (by decide))]; rfl
def m331 : Ln := { lnOf c33 with n := 0, st := 2 }
theorem start33 : startL (lnOf c33) = (m331, [(1, [])]) := by kernel_rfl
def m332 : Ln := ⟨1, 4, 0, 4, 0, 0, [], [], 1, 1, []⟩
theorem open33 : openedL m331 1 true 0 = (m332, []) := by kernel_rfl
def x331 : Cns := ⟨c33, m332, Sea.new 9, [], false, 0⟩
def R33 : ByteArray := str (recP I33)
theorem put33 : putP 1000 B33 2 64 0 [] R33 = (0, 0, [⟨B33, R33, 0⟩]) := by kernel_rfl
theorem came33 : cameC 1000 2 0 [] x331 S33 = (⟨c33, m332, Sea.new 9, S33, false, 0⟩, ⟨0, [⟨B33, R33, 0⟩], false, 0⟩, true) := by
  unfold cameC
  rw [if_neg (by decide)]
  have hc : chunksOf S33 = [S33] := by decide
  have hp : putsJ 1000 (baseOf x331.c) x331.c.gens.toNat x331.c.size.toNat 2 ⟨0, [], x331.rest, x331.lost⟩ (chunksOf S33) = ⟨0, [⟨B33, R33, 0⟩], false, 0⟩ := by
    rw [hc, show baseOf x331.c = B33 from base33]
    unfold putsJ
    simp only [List.foldl_cons, List.foldl_nil]
    unfold addJ
    rw [if_neg (by decide)]
    have := put33
    rw [show str (recP ⟨1, 2, str S33⟩) = R33 from rfl, show x331.c.gens.toNat = 2 from rfl, show x331.c.size.toNat = 64 from rfl]
    rw [this]
    rfl
  rw [hp]
  rfl
def x332 : Cns := ⟨c33, m332, Sea.new 9, S33, false, 0⟩
def s333 : Sea := ⟨[⟨3, 2⟩], 9, 3, []⟩
theorem call33 : comeS (Sea.new 9) 3 2 true = (s333, [(3, 2)], 0) := by kernel_rfl
def x333 : Cns := ⟨c33, m332, s333, S33, false, 0⟩
theorem type33 : typeC x333 3 [108, 115, 10] = (x333, [(3, [108, 115, 10])], 0) := by kernel_rfl
theorem type334 : typeC x333 4 [114, 109, 10] = (x333, [], 10) := by kernel_rfl
theorem back33 : backC S33 2 = 3 := by kernel_rfl
theorem save33 : syncJ B33 ⟨0, [⟨B33, R33, 0⟩], false, 0⟩ = (⟨0, [⟨B33, R33, 22⟩], false, 0⟩, true) := by kernel_rfl
theorem crash33 : crashP [] [⟨B33, R33, 22⟩] = [⟨B33, R33, 22⟩] := by kernel_rfl
theorem scan33 : scanI R33.data.toList = [I33] := by
  have h := scan_flat (xs := [I33]) (by intro x hx; simp only [List.mem_cons, List.not_mem_nil, or_false] at hx; rw [hx]; exact I33_ok) []
  rw [List.append_nil, scan_nil, List.append_nil] at h
  rw [← h]
  congr 1
theorem all333 : allP [⟨B33, R33, 22⟩] B33 2 = [R33] := by
  rw [allP_succ, allP_succ]
  unfold genF
  rw [g331, g330]
  rfl
theorem items333 : itemsC c33 [⟨B33, R33, 22⟩] = [I33] := by
  unfold itemsC
  rw [base33, show heldP c33.gens = 2 from rfl, all333]
  unfold loadP
  rw [List.flatMap_cons, List.flatMap_nil, List.append_nil, scan33]
theorem turn33 : beginP B33 1 0 [⟨B33, R33, 22⟩] = (0, 0, [⟨B331, R33, 22⟩]) := by
  unfold beginP
  rw [show getG SFile.name B33 [⟨B33, R33, 22⟩] = some ⟨B33, R33, 22⟩ from by kernel_rfl]
  simp only
  unfold turnP
  have h1 : goneP B33 1 0 [⟨B33, R33, 22⟩] = (0, 0, [⟨B33, R33, 22⟩]) := by unfold goneP genF; rw [g331]; kernel_rfl
  rw [h1, if_neg (by simp)]
  rw [turnL_cons_some (base := B33) (j := 0) (bad := 0) (l := [⟨B33, R33, 22⟩]) (f := ⟨B33, R33, 22⟩) (x := (0, 0, [⟨B331, R33, 22⟩])) (by unfold genF; rw [g330]; kernel_rfl) (by rw [g330, g331]; kernel_rfl), if_neg (by simp)]
  rfl
theorem again333 : againC c33 0 [⟨B33, R33, 22⟩] = (0, 0, [⟨B331, R33, 22⟩], [99, 100, 10, 101, 102]) := by
  unfold againC
  rw [items333, base33, show heldP c33.gens - 1 = 1 from rfl, turn33]
  rw [show tailP c33.bytes.toNat c33.lines.toNat (dataP [I33]) = [99, 100, 10, 101, 102] from by kernel_rfl]
  rfl
theorem new333 : newC c33 9 0 [⟨B33, R33, 22⟩] = (0, 0, [⟨B331, R33, 22⟩], [99, 100, 10, 101, 102]) := by
  unfold newC
  rw [line33, if_neg (by decide), if_neg (by decide), if_neg (by decide), again333]
end Go.Proofs.YtkmpdobojgiegaaGreatDoor
