/-
  restore.Begin: what comes begins a generation.
-/
import Derived.Test.YtkmpdobojgiegaaGreatDoorQGround3
namespace Go.Proofs.YtkmpdobojgiegaaGreatDoor
open Go.RowKit

/-- what a log's store is behind Begin: nothing, or a turn, where there is a newest generation -/
def beginP (base : ByteArray) (j bad : Nat) (l : List SFile) : Int × Nat × List SFile := match getG SFile.name base l with
  | none => (0, bad, l)
  | some _ => turnP base j bad l
section
variable [Res] {w0 w w' : World} {s M bad n : Nat} {most : Int} {L : List SRep}
set_option maxRecDepth 100000 in
theorem resbegin_any (h : Sto w0 w s M most bad L n) (hn : n ≤ 1000000) (base : ByteArray) (k : Int) (hb : base.size ≤ 1048576) :
    Calls Tryz.prog 115 #[.pointer (some ⟨s, 0, none⟩), .string base, .int .i64 k] w (Turned w0 w s M most n (beginP base (heldP k - 1) bad (L.map SRep.f))) := by
  unfold beginP
  cases hg : getG SFile.name base (L.map SRep.f) with
  | none =>
    have HR := Lib.hid (sread_none h (nm := base) (by unfold maxLen; omega) hg)
    have H := Lib.hid h
    simp only
    clear h hg
    go_enter Tryz.func115, Tryz.ntmps115
    go_wp2_with fail
    refine HR.out.mono ?_
    rintro e w2 ⟨rfl, hw⟩
    obtain rfl : w = w2 := hw.symm
    go_wp2_with fail
    go_ret
    exact ⟨_, L, rfl, ErrV.ok, H.out.le_n (by omega) (by omega), rfl, Keeps.refl _ _⟩
  | some f =>
    have HR := Lib.hid (sread_some h (nm := base) (by unfold maxLen; omega) hg)
    have HT := Lib.hid (gturn_any h hn base k hb)
    simp only
    obtain ⟨R, hR⟩ : ∃ R, R = turnP base (heldP k - 1) bad (L.map SRep.f) := ⟨_, rfl⟩
    rw [← hR] at HT ⊢
    clear h hg hR
    go_enter Tryz.func115, Tryz.ntmps115
    go_wp2_with fail
    refine HR.out.mono ?_
    rintro e w2 ⟨rfl, hw⟩
    obtain rfl : w = w2 := hw.symm
    go_wp2_with fail
    refine HT.out.mono ?_
    rintro e w2 ⟨v, L2, rfl, h2⟩
    have H2 := Lib.hid h2
    clear h2 HT HR
    go_wp2_with fail
    go_ret
    exact ⟨v, L2, rfl, H2.out⟩
end
end Go.Proofs.YtkmpdobojgiegaaGreatDoor
