/-
  How many items an item says were lost (restore.lost), and the time of the last one (restore.Last).
-/
import Derived.Test.YtkmpdobojgiegaaGreatDoorQGround5
namespace Go.Proofs.YtkmpdobojgiegaaGreatDoor
open Go.RowKit

/-- how many items a text says were lost -/
def numT (l : List UInt8) : Int := if tickB l then valI (l.take 14) else 0
def lostI (x : Itm) : Int := if x.kind = 3 then numT x.body.data.toList else 0
theorem numT_le (l : List UInt8) : 0 ≤ numT l ∧ numT l ≤ 1099511627776 := by
  unfold numT
  by_cases h : tickB l = true
  · rw [if_pos h]
    unfold tickB at h
    simp only [Bool.and_eq_true, decide_eq_true_eq] at h
    exact h.1
  · rw [if_neg h]; omega
theorem lostI_le (x : Itm) : 0 ≤ lostI x ∧ lostI x ≤ 1099511627776 := by
  unfold lostI
  split
  · exact numT_le _
  · omega
theorem tickV_num (l : List UInt8) : ∃ e, tickV l = .tuple #[.int .i64 (numT l), .int .i64 e] := by
  unfold tickV numT
  split
  · exact ⟨0, rfl⟩
  · exact ⟨3, rfl⟩
set_option maxRecDepth 100000 in
theorem rlost_any (w : World) (x : Itm) (hb : x.body.size ≤ 4611686018427387904) : Calls Tryz.prog 167 #[itmV x] w fun e w' => e = .returned (.int .i64 (lostI x)) ∧ Keeps (fun _ => False) w w' := by
  have HK := Lib.hid (fun (o : Obj) => (Keeps.refl (fun _ => False) w).alloc o)
  have hD := dread_any
  obtain ⟨kind, at_, body⟩ := x
  unfold itmV lostI
  simp only at hb ⊢
  obtain ⟨e, he⟩ := tickV_num body.data.toList
  by_cases hk : kind = 3
  · subst hk
    rw [if_pos rfl]
    obtain ⟨V, hV⟩ : ∃ V, V = numT body.data.toList := ⟨_, rfl⟩
    rw [← hV] at he ⊢
    have HD := Lib.hid (fun w2 => by have := hD w2 body hb; rw [he] at this; exact this)
    clear he hV hD
    go_enter Tryz.func167, Tryz.ntmps167
    go_wp2_with fail
    refine (HD.out _).mono ?_
    rintro e2 w2 ⟨rfl, hw⟩
    have HW := Lib.hid hw
    clear hw
    go_wp2_with fail
    go_ret
    exact ⟨rfl, by rw [HW.out]; exact HK.out _⟩
  · rw [if_neg hk]
    have hkb : (kind == 3) = false := by rw [beq_eq_false_iff_ne]; exact hk
    clear hk he hD
    go_enter Tryz.func167, Tryz.ntmps167
    go_wp2_with fail
    go_ret
    exact ⟨rfl, HK.out _⟩
end Go.Proofs.YtkmpdobojgiegaaGreatDoor
