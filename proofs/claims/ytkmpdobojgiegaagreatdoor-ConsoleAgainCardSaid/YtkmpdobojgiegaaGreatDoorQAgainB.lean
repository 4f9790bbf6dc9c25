/-
  law33's sample settings, whatever they are sampled from: a console of them may be; its line, opened, is up. No program in sight.
-/
import Derived.Test.YtkmpdobojgiegaaGreatDoorQW33P
namespace Go.Proofs.YtkmpdobojgiegaaGreatDoor
open Go.RowKit Go.Maps

theorem sam_rule (c : Con) : ruleOk (sampleC c).base (sampleC c).cap (sampleC c).jitter = true := by
  have h1 := clampM_le c.base 4 (by decide)
  have h2 := clampM_le c.cap 20 (by decide)
  have h3 := clampM_le c.jitter 4 (by decide)
  refine ruleP.2 ⟨?_, ?_, ?_, ?_, ?_, ?_⟩
  · show 1 ≤ 1 + clampM c.base 4; omega
  · show 1 + clampM c.base 4 ≤ 3600; omega
  · show 1 + clampM c.base 4 ≤ 4 + clampM c.cap 20; omega
  · show 4 + clampM c.cap 20 ≤ 86400; omega
  · show 0 ≤ clampM c.jitter 4; omega
  · show clampM c.jitter 4 ≤ 3600; omega
theorem sam_brk (c : Con) : brkP (sampleC c).init.data.toList = (0, []) := by rfl
theorem sam_line (c : Con) : lineC0 (sampleC c) = 0 := by unfold lineC0; rw [if_pos (sam_rule c), sam_brk]
theorem sam_log (c : Con) : logC0 (sampleC c) = 0 := by
  have h1 := clampM_le c.gens 4 (by decide)
  have h2 := clampM_le c.size 300 (by decide)
  unfold logC0
  rw [if_pos (logOk_iff.2 ⟨?_, ?_, ?_, ?_⟩)]
  · show 1 ≤ 2 + clampM c.gens 4; omega
  · show 2 + clampM c.gens 4 ≤ 16; omega
  · show 64 ≤ 64 + clampM c.size 300; omega
  · show 64 + clampM c.size 300 ≤ 1048576; omega
theorem sam_tail (c : Con) : tailOk (sampleC c).lines (sampleC c).bytes = true := by
  have h1 := clampM_le c.lines 9 (by decide)
  have h2 := clampM_le c.bytes 200 (by decide)
  refine tailOk_iff.2 ⟨?_, ?_, ?_, ?_⟩
  · show 1 ≤ 1 + clampM c.lines 9; omega
  · show 1 + clampM c.lines 9 ≤ 1024; omega
  · show 1 ≤ 1 + clampM c.bytes 200; omega
  · show 1 + clampM c.bytes 200 ≤ 65536; omega
theorem sam_base (c : Con) : baseOf (sampleC c) = B33 := by kernel_rfl
theorem sam_new {c : Con} {m : Int} (hm : 1 ≤ m ∧ m ≤ 4096) (bad : Nat) (l : List SFile) : newC (sampleC c) m bad l = againC (sampleC c) bad l := by
  unfold newC
  rw [if_neg (by rw [sam_line]; simp), if_neg (by unfold seatC0; rw [if_pos hm]; simp), if_neg (by rw [sam_log]; simp)]
theorem sam_again0 (c : Con) : againC (sampleC c) 0 [] = (0, 0, [], []) := by
  unfold againC
  rw [if_pos (sam_tail c), items_nil]
  have hb : ∀ j, beginP (baseOf (sampleC c)) j 0 [] = (0, 0, []) := fun j => rfl
  rw [hb, if_pos rfl]
  rfl
/-- the line of a sample, up -/
def samUp (c : Con) : Ln := { lnOf (sampleC c) with n := 0, st := 4, l := [], start := 0, done := 0, held := [] }
theorem sam_start (c : Con) : startL (lnOf (sampleC c)) = ({ lnOf (sampleC c) with n := 0, st := 2 }, [(1, [])]) := rfl
theorem sam_open (c : Con) : (openedL { lnOf (sampleC c) with n := 0, st := 2 } 0 true 0).1 = samUp c := by
  have hf : (lnOf (sampleC c)).first = [] := by show (brkP (sampleC c).init.data.toList).2 = []; rw [sam_brk]
  unfold openedL
  rw [if_neg (fun e => e.elim (fun e => e rfl) (fun e => by cases e)), if_pos rfl]
  unfold goOnL
  simp only [hf]
  rw [if_pos (by decide)]
  unfold samUp
  rw [← hf]
end Go.Proofs.YtkmpdobojgiegaaGreatDoor
