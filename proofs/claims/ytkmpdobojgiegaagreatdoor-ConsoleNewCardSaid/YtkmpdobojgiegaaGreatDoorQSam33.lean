/-
  law33: Sample.
-/
import Derived.Test.YtkmpdobojgiegaaGreatDoorQR19S
namespace Go.Proofs.YtkmpdobojgiegaaGreatDoor
open Go.RowKit

def clampM (a m : Int) : Int := max 0 (a.tmod m)
/-- settings that may be -/
def sampleC (c : Con) : Con := ⟨⟨#[108, 111, 103]⟩, 1, 1 + clampM c.lines 9, 1 + clampM c.bytes 200, 2 + clampM c.gens 4, 64 + clampM c.size 300, 1 + clampM c.base 4, 4 + clampM c.cap 20, clampM c.jitter 4, ⟨#[]⟩⟩
theorem clampM_le (a m : Int) (h : 0 < m) : 0 ≤ clampM a m ∧ clampM a m < m := by
  unfold clampM
  have h1 := Int.tmod_lt_of_pos a h
  omega
set_option maxRecDepth 100000 in
theorem sample_any (w : World) (c : Con) : Calls Tryz.prog 11 #[conV c] w fun e w' => e = .returned (conV (sampleC c)) ∧ Keeps (fun _ => False) w w' := by
  obtain ⟨nm, kind, lines, bytes, gens, size, base, cap, jit, init⟩ := c
  unfold conV conR sampleC
  simp only
  go_enter Tryz.func11, Tryz.ntmps11
  go_wp2_with fail
  refine ret_cell rfl (w.heap.size + 1) 23 _ _ rfl (Blk.new2 _ _ _ _) Tryz.underlying23 rfl (by kernel_rfl) rfl ?_
  have e1 := clampM_le lines 9 (by decide)
  have e2 := clampM_le bytes 200 (by decide)
  have e3 := clampM_le gens 4 (by decide)
  have e4 := clampM_le size 300 (by decide)
  have e5 := clampM_le base 4 (by decide)
  have e6 := clampM_le cap 20 (by decide)
  have h : ∀ (k a m : Int), 0 ≤ clampM a m ∧ clampM a m < m → 0 ≤ k → k ≤ 1000 → m ≤ 1000 → wrap64 (k + max 0 (a.tmod m)) = k + clampM a m := fun k a m h1 h2 h3 h4 => by unfold clampM at h1 ⊢; unfold wrap64; omega
  refine ⟨?_, by (repeat (first | (with_reducible assumption) | (with_reducible exact Keeps.refl _ _) | refine Keeps.drew ?_ | refine Keeps.drewN ?_ _ | refine Keeps.setCell ?_ (by simp) _ | refine Keeps.setRow ?_ (by simp) _ | refine Keeps.alloc ?_ _))⟩
  have h1 := h 1 lines 9 e1 (by decide) (by decide) (by decide)
  have h2 := h 1 bytes 200 e2 (by decide) (by decide) (by decide)
  have h3 := h 2 gens 4 e3 (by decide) (by decide) (by decide)
  have h4 := h 64 size 300 e4 (by decide) (by decide) (by decide)
  have h5 := h 1 base 4 e5 (by decide) (by decide) (by decide)
  have h6 := h 4 cap 20 e6 (by decide) (by decide) (by decide)
  rw [← h1, ← h2, ← h3, ← h4, ← h5, ← h6]
  rfl
end Go.Proofs.YtkmpdobojgiegaaGreatDoor
