/-
  The desk: Cut.
-/
import Derived.Test.YtcblaeleaebinaaDeskC
namespace Go.Proofs.Ytcblaeleaebinaa
open Go.RowKit
section
variable (w : World) (E : Nat → PastD) (d : Nat) (F : Nat → Prop) (most : Nat) (torn : Bool) (bg : List UInt8) (l : List DPart) (v : Value)

set_option maxRecDepth 100000 in
/-- what waits is gone, but for what is begun -/
theorem dcut_any (h : DeskAt w E d F most torn bg l v) : Calls Try.prog 16 #[.pointer (some ⟨d, 0, none⟩)] w fun e w' => e = .returned (.tuple #[]) ∧ Keeps F w w' ∧ ∃ v', DeskAt w' E d F most torn bg [] v' := by
  have B := h.top
  have hfit := h.fit
  have hbl : bg.length ≤ (flowP E bg l).length := by unfold flowP; rw [List.length_append, markP_len]; omega
  have hf0 : (flowP E bg []).length = bg.length := by unfold flowP; simp [markP_len]
  obtain ⟨n, hn⟩ : ∃ n, n = (flowP E bg l).length := ⟨_, rfl⟩
  rw [← hn] at B
  have hlt := B.lt
  have H := Lib.hid h
  clear h hn
  go_enter Try.func16, Try.ntmps16
  go_wp2_with fail
  refine (dmade_yes w E d F most torn bg l v H.out).mono ?_
  rintro e w1 ⟨rfl, n1, rfl⟩
  have B1 := B.drewN n1
  have H1 := Lib.hid (H.out.drewN n1)
  generalize hw1 : w.drewN n1 = w1 at B1 H1 ⊢
  have K1 : Keeps F w w1 := by rw [← hw1]; exact (Keeps.refl _ _).drewN n1
  clear hw1 B
  have c0 := B1.cell 0
  have c1 := B1.cell 1
  have f1 := B1.frozen 1
  have f2 := B1.frozen 2
  have c2 := B1.cell 2
  have hs := str_size bg
  simp at c0 c1 c2
  have hl1 := B1.lt
  have HB := Lib.hid B1
  clear B1
  go_wp2_with fail
  have hD : F d := H.out.inD
  refine bodyPost_end (results_none rfl _ _ _) rfl ⟨rfl, (K1.setCell (p := ⟨d, 1, none⟩) (fun _ => hD) _).setCell (p := ⟨d, 2, none⟩) (fun _ => hD) _, .slice none 0 0, ?_⟩
  exact {
    top := by
      have := (HB.out.set_ 1 (.slice none 0 0)).set_ 2 (.int .i64 bg.length)
      rw [hf0]
      simpa using this
    own := OwnQ.none_
    pcs := fun q hq => by cases hq
    dist := List.nodup_nil
    inD := hD
    inV := fun i hi => by simp [rowB] at hi
    inX := fun x hx => by cases hx
    mst := H.out.mst
    fit := by rw [hf0]; exact ⟨by omega, by simp⟩ }
end
end Go.Proofs.Ytcblaeleaebinaa
