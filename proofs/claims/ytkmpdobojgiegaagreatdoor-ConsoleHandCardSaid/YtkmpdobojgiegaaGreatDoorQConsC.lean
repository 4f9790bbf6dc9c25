/-
  console: Note, Came.
-/
import Derived.Test.YtkmpdobojgiegaaGreatDoorQConsB
namespace Go.Proofs.YtkmpdobojgiegaaGreatDoor
open Go.RowKit

/-- what is written down of a text: its pieces -/
def chunks : Nat → List UInt8 → List (List UInt8)
  | 0, _ => []
  | f + 1, s => if s = [] then [] else s.take 4096 :: chunks f (s.drop 4096)
def chunksOf (s : List UInt8) : List (List UInt8) := chunks s.length s
/-- what a log is behind pieces -/
def putsJ (mst : Int) (base : ByteArray) (k size : Nat) (now : Int) (j : Jp) (l : List (List UInt8)) : Jp := l.foldl (fun j c => (addJ mst base k size j ⟨1, now, str c⟩).1) j
theorem add_lost (mst : Int) (base : ByteArray) (k size : Nat) (j : Jp) (x : Itm) : (addJ mst base k size j x).1.lost ≤ j.lost + 1 := by
  unfold addJ
  split
  · exact Nat.le_refl _
  · split
    · exact Nat.le_succ _
    · exact Nat.le_refl _
/-- a console and its log behind an act of the log -/
def Cns.log (x : Cns) (j : Jp) : Cns := { x with rest := j.rest, lost := j.lost }
theorem dataI_ok {now : Int} (h : 0 ≤ now ∧ now ≤ 1099511627776) {s : List UInt8} (hs : s.length ≤ 4096) : (⟨1, now, str s⟩ : Itm).ok := by
  refine ⟨⟨by show (1 : Int) ≤ 1; omega, by show (1 : Int) ≤ 15; omega⟩, h, ?_⟩
  show (str s).size ≤ 4096
  rw [str_size]; omega
theorem strx_take (s : List UInt8) (n : Nat) : (str s).extract 0 n = str (s.take n) := by
  apply ba_ext
  simp [str, List.extract_eq_take_drop]
theorem ext_min (t : ByteArray) : t.extract 0 4096 = t.extract 0 (min (t.size : Int) 4096).toNat := by
  have h : t.data.toList.length = t.size := by simp
  by_cases hb : t.size ≤ 4096
  · rw [show (min (t.size : Int) 4096).toNat = t.size by omega]
    apply ba_ext
    simp only [ByteArray.data_extract, Array.toList_extract, List.extract_eq_take_drop, List.drop_zero, Nat.sub_zero]
    rw [List.take_of_length_le (by omega), List.take_of_length_le (by omega)]
  · rw [show (min (t.size : Int) 4096).toNat = 4096 by omega]
theorem strx_drop (s : List UInt8) (n : Nat) : (str s).extract n (str s).size = str (s.drop n) := by
  apply ba_ext
  rw [ext_list]
  rfl
section
variable {w0 w w' : World} {F G S FT : Nat → Prop} {tag : Nat → Nat} {xb st lb sb pb g b jb n : Nat} {x : Cns} {most : Int} {bad : Nat} {l : List SFile}
end
end Go.Proofs.YtkmpdobojgiegaaGreatDoor
