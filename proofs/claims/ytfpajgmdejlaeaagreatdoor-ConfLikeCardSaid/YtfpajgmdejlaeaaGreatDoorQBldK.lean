/-
  strings.Builder's state stays while other blocks are written; runs of blanks.
-/
import Derived.Test.YtfpajgmdejlaeaaGreatDoorQBld
namespace Go.Proofs.YtfpajgmdejlaeaaGreatDoor
open Go.RowKit

theorem bld_keeps {T e : TypeId} {B b : Nat} {bs : List Value} {w w' : World} {S : Nat → Prop} (h : Lib.IsBuilder T e B b bs w) (k : Keeps S w w') (hS : ∀ i, B ≤ i → ¬ S i) : Lib.IsBuilder T e B b bs w' := by
  have one : ∀ p, Lib.BuilderAt T e B b p bs w → Lib.BuilderAt T e B b p bs w' := fun p h => by
    obtain ⟨hB, v, hb, hown, hne⟩ := h
    exact ⟨hB, v, Blk.keeps (show Blk w b T _ from hb) k (hS b hB), OwnL.keeps (show OwnL w B e v bs from hown) k (fun i hi _ => hS i hi), hne⟩
  exact h.imp (one _) (one _)
theorem Keeps.of_below2 {w w' : World} {B : Nat} (h : Below B w w') : Keeps (fun i => B ≤ i) w w' := ⟨h.os, h.tape, h.output, h.size, fun k _ hn => h.block k (by omega)⟩
theorem byteCells_app (l : List UInt8) (s : ByteArray) : Lib.byteCells l ++ Lib.strCells s = Lib.byteCells (l ++ s.data.toList) := by
  simp [Lib.byteCells, Lib.strCells]
theorem repeatL_sp (n : Nat) : (⟨(Lib.repeatL (⟨#[32]⟩ : ByteArray).data.toList n).toArray⟩ : ByteArray) = str (List.replicate n 32) := by
  have h := Lib.repeatL_replicate 32 1 n
  rw [Nat.mul_one] at h
  show (⟨(Lib.repeatL (List.replicate 1 32) n).toArray⟩ : ByteArray) = _
  rw [h]; rfl
/-- strings.Repeat at a blank -/
theorem blanks_any (w : World) (x : Int) (h0 : 0 ≤ x) (h1 : x ≤ 17179869184) :
    Calls Tryz.prog 95 #[.string ⟨#[32]⟩, .int .i64 x] w fun e w' => e = .returned (.string (str (List.replicate x.toNat 32))) ∧ Keeps (fun _ => False) w w' := by
  obtain ⟨n, rfl⟩ := Int.eq_ofNat_of_zero_le h0
  refine (Tryz.strings_Repeat ⟨#[32]⟩ n w (by omega) (by rw [show (⟨#[32]⟩ : ByteArray).size = 1 from rfl]; omega)).mono ?_
  rintro e w' ⟨rfl, hb⟩
  exact ⟨by rw [repeatL_sp]; rfl, Keeps.of_below hb⟩
end Go.Proofs.YtfpajgmdejlaeaaGreatDoor
