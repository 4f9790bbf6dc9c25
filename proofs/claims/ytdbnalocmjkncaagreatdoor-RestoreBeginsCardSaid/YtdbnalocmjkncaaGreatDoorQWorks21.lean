/-
  works of law21: true, and only new blocks.
-/
import Derived.Test.YtdbnalocmjkncaaGreatDoorQGensC
namespace Go.Proofs.YtdbnalocmjkncaaGreatDoor
open Go.RowKit Go.Maps
attribute [local instance] noRes

/-- a row of texts that lies in a block of texts -/
def StrT (w : World) (a : Option Addr) (l : List ByteArray) : Prop := l ≠ [] → ∃ b cs, a = some ⟨b, 0, none⟩ ∧ Blk w b 9 cs ∧ ∀ (i : Nat) (s : ByteArray), l[i]? = some s → cs[i]? = some (.string s)
theorem StrT.of_own {w : World} {B : Nat} {a : Option Addr} {n c : Nat} {l : List ByteArray} (h : OwnL w B 9 (.slice a n c) (l.map Value.string)) : StrT w a l := fun hl => by
  obtain ⟨a1, c1, hv, _, _, h1, h2⟩ := h.shape
  injection hv with e1 e2 e3
  subst e1
  have hp : 0 < (l.map Value.string).length := by rw [List.length_map]; exact List.length_pos_iff.2 hl
  obtain ⟨g, rfl, _, _⟩ := h1 hp
  obtain ⟨cs, hb⟩ := h.ownBlk g rfl
  refine ⟨g, cs, rfl, hb, fun i s hs => ?_⟩
  rw [← hb.cell i]
  exact (h2 g rfl i (.string s) (by rw [List.getElem?_map, hs]; rfl)).1
theorem StrT.other {w w' : World} {a : Option Addr} {l : List ByteArray} {F : Nat → Prop} (h : StrT w a l) (k : Keeps (fun i => F i ∧ StR w i) w w') : StrT w' a l := fun hl => by
  obtain ⟨b, cs, ha, hb, hc⟩ := h hl
  exact ⟨b, cs, ha, hb.other k (by decide) (by decide) (by decide), hc⟩
theorem StrT.same {w w' : World} {a : Option Addr} {l : List ByteArray} (h : StrT w a l) (k : Keeps (fun _ => False) w w') : StrT w' a l := fun hl => by
  obtain ⟨b, cs, ha, hb, hc⟩ := h hl
  exact ⟨b, cs, ha, hb.keeps k id, hc⟩
theorem StrT.slat {w : World} {a : Option Addr} {l : List ByteArray} (h : StrT w a l) : SlAt strR 1 w a l.length l := by
  refine ⟨rfl, fun hn => ?_⟩
  obtain ⟨b, cs, ha, hb, hc⟩ := h (List.length_pos_iff.1 hn)
  refine ⟨b, 0, ha, hb.lt, fun i x j v hx hv => ?_⟩
  match j, hv with
  | 0, hv =>
    simp [strR] at hv
    subst hv
    have := hb.cell i
    rw [hc i x hx] at this
    simpa using this
  | j + 1, hv => simp [strR] at hv

abbrev cA : ByteArray := ⟨#[97]⟩
abbrev cA1 : ByteArray := ⟨#[97, 46, 49]⟩
abbrev cA2 : ByteArray := ⟨#[97, 46, 50]⟩
theorem gA0 : genName cA ((0 : Nat) : Int) = cA := genName_zero (by omega)
theorem gA1 : genName cA ((1 : Nat) : Int) = cA1 := by rw [genName_pos (by omega), dec_pos (by omega), decN_small (by decide)]; rfl
theorem gA2 : genName cA ((2 : Nat) : Int) = cA2 := by rw [genName_pos (by omega), dec_pos (by omega), decN_small (by decide)]; rfl
theorem gA12 : genName cA 12 = ⟨#[97, 46, 49, 50]⟩ := by rw [genName_pos (by omega), dec_pos (by omega), decN_big (by decide), decN_small (by decide)]; rfl
theorem gAz : genName cA 0 = cA := genName_zero (by omega)
def lA : List SFile := [⟨cA, ⟨#[51]⟩, 0⟩, ⟨cA1, ⟨#[50]⟩, 0⟩, ⟨cA2, ⟨#[49]⟩, 0⟩]
def lB : List SFile := [⟨cA1, ⟨#[51]⟩, 0⟩, ⟨cA2, ⟨#[50]⟩, 0⟩]
theorem allA : allP lA cA 3 = [⟨#[49]⟩, ⟨#[50]⟩, ⟨#[51]⟩] := by
  rw [allP_succ, allP_succ, allP_succ]; unfold genF; rw [gA0, gA1, gA2]; rfl
theorem allB : allP lB cA 3 = [⟨#[50]⟩, ⟨#[51]⟩] := by
  rw [allP_succ, allP_succ, allP_succ]; unfold genF; rw [gA0, gA1, gA2]; rfl
theorem namesB : namesP lB cA 3 = [cA2, cA1] := by
  rw [namesP_succ, namesP_succ, namesP_succ]; unfold genF; rw [gA0, gA1, gA2]; rfl
theorem turnA : turnP cA 2 0 lA = (0, 0, lB) := by
  have h2 : goneP cA 2 0 lA = (0, 0, [⟨cA, ⟨#[51]⟩, 0⟩, ⟨cA1, ⟨#[50]⟩, 0⟩]) := by unfold goneP genF; rw [gA2]; kernel_rfl
  unfold turnP
  rw [h2, if_neg (by simp)]
  rw [turnL_cons_some (base := cA) (j := 1) (bad := 0) (l := [⟨cA, ⟨#[51]⟩, 0⟩, ⟨cA1, ⟨#[50]⟩, 0⟩]) (f := ⟨cA1, ⟨#[50]⟩, 0⟩) (x := (0, 0, [⟨cA, ⟨#[51]⟩, 0⟩, ⟨cA2, ⟨#[50]⟩, 0⟩])) (by unfold genF; rw [gA1]; rfl) (by rw [gA1, gA2]; kernel_rfl), if_neg (by simp)]
  rw [turnL_cons_some (base := cA) (j := 0) (bad := 0) (l := [⟨cA, ⟨#[51]⟩, 0⟩, ⟨cA2, ⟨#[50]⟩, 0⟩]) (f := ⟨cA, ⟨#[51]⟩, 0⟩) (x := (0, 0, lB)) (by unfold genF; rw [gA0]; rfl) (by rw [gA0, gA1]; kernel_rfl), if_neg (by simp)]
  rfl
theorem turnB : turnP cA 2 1 lB = (12, 0, lB) := by
  have h2 : goneP cA 2 1 lB = (12, 0, lB) := by unfold goneP genF; rw [gA2]; kernel_rfl
  unfold turnP
  rw [h2, if_pos (by simp)]
theorem held3 : heldP 3 = 3 := by decide
end Go.Proofs.YtdbnalocmjkncaaGreatDoor
