/-
  board's State, Role, Level, Kind.
-/
import Derived.Test.YtgpfmkkkpdpdfaaDoorBrdA
namespace Go.Proofs.YtgpfmkkkpdpdfaaDoor
open Go.RowKit

/-- words in a new row -/
theorem slat_new (w : World) (t : TypeId) (l : List ByteArray) : SlAt strR 1 (w.alloc (.cells (l.map Value.string).toArray t)) (some ⟨w.heap.size, 0, none⟩) l.length l := by
  refine ⟨rfl, fun _ => ⟨w.heap.size, 0, rfl, by simp, fun i x j v hx hv => ?_⟩⟩
  rw [(Blk.new w t (l.map Value.string).toArray).cell]
  match j, hv with
  | 0, hv =>
    simp [strR] at hv
    subst hv
    simp [hx]
  | j + 1, hv => simp [strR] at hv

def stateW : List ByteArray := [⟨#[111, 102, 102]⟩, ⟨#[119, 97, 105, 116, 115]⟩, ⟨#[111, 112, 101, 110, 105, 110, 103]⟩, ⟨#[105, 110, 105, 116]⟩, ⟨#[117, 112]⟩, ⟨#[98, 114, 101, 97, 107, 115]⟩]
set_option maxRecDepth 100000 in
theorem state_any (w : World) (n : Int) : Calls Tryd.prog 24 #[.int .i64 n] w fun e w' => e = .returned (.string (wordP n stateW)) ∧ Keeps (fun _ => False) w w' := by
  have h := fun t => word_any _ n _ _ 6 stateW (slat_new w t stateW) (by decide)
  have H := Lib.hid h
  clear h
  go_enter Tryd.func24, Tryd.ntmps24
  go_wp2_with fail
  refine (H.out _).mono ?_
  rintro e w' ⟨rfl, m, rfl⟩
  go_wp2_with fail
  go_ret
  exact ⟨rfl, ((Keeps.refl _ _).alloc _).drewN _⟩

def roleW : List ByteArray := [⟨#[103, 111, 110, 101]⟩, ⟨#[115, 112, 121]⟩, ⟨#[119, 114, 105, 116, 101, 114]⟩, ⟨#[119, 97, 105, 116, 115]⟩]
set_option maxRecDepth 100000 in
theorem role_any (w : World) (n : Int) : Calls Tryd.prog 26 #[.int .i64 n] w fun e w' => e = .returned (.string (wordP n roleW)) ∧ Keeps (fun _ => False) w w' := by
  have h := fun t => word_any _ n _ _ 4 roleW (slat_new w t roleW) (by decide)
  have H := Lib.hid h
  clear h
  go_enter Tryd.func26, Tryd.ntmps26
  go_wp2_with fail
  refine (H.out _).mono ?_
  rintro e w' ⟨rfl, m, rfl⟩
  go_wp2_with fail
  go_ret
  exact ⟨rfl, ((Keeps.refl _ _).alloc _).drewN _⟩

def levelW : List ByteArray := [⟨#[110, 111, 110, 101]⟩, ⟨#[108, 111, 111, 107]⟩, ⟨#[104, 97, 110, 100]⟩, ⟨#[99, 104, 105, 101, 102]⟩]
set_option maxRecDepth 100000 in
theorem level_any (w : World) (n : Int) : Calls Tryd.prog 27 #[.int .i64 n] w fun e w' => e = .returned (.string (wordP n levelW)) ∧ Keeps (fun _ => False) w w' := by
  have h := fun t => word_any _ n _ _ 4 levelW (slat_new w t levelW) (by decide)
  have H := Lib.hid h
  clear h
  go_enter Tryd.func27, Tryd.ntmps27
  go_wp2_with fail
  refine (H.out _).mono ?_
  rintro e w' ⟨rfl, m, rfl⟩
  go_wp2_with fail
  go_ret
  exact ⟨rfl, ((Keeps.refl _ _).alloc _).drewN _⟩

def kindW : List ByteArray := [⟨#[63]⟩, ⟨#[115, 101, 114, 105, 97, 108]⟩, ⟨#[112, 116, 121]⟩]
set_option maxRecDepth 100000 in
theorem kind_any (w : World) (n : Int) : Calls Tryd.prog 28 #[.int .i64 n] w fun e w' => e = .returned (.string (wordP n kindW)) ∧ Keeps (fun _ => False) w w' := by
  have h := fun t => word_any _ n _ _ 3 kindW (slat_new w t kindW) (by decide)
  have H := Lib.hid h
  clear h
  go_enter Tryd.func28, Tryd.ntmps28
  go_wp2_with fail
  refine (H.out _).mono ?_
  rintro e w' ⟨rfl, m, rfl⟩
  go_wp2_with fail
  go_ret
  exact ⟨rfl, ((Keeps.refl _ _).alloc _).drewN _⟩
end Go.Proofs.YtgpfmkkkpdpdfaaDoor
