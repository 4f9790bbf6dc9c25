/-
  The desk: Tell, by walk.
-/
import Derived.Test.YtcblaeleaebinaaDeskC
namespace Go.Proofs.Ytcblaeleaebinaa
open Go.RowKit

section
variable (w : World) (E : Nat → PastD) (d : Nat) (F : Nat → Prop) (most : Nat) (torn : Bool) (bg : List UInt8) (l : List DPart) (v : Value)

set_option maxRecDepth 100000 in
set_option maxHeartbeats 2000000 in
theorem dtell_any (s : ByteArray) (h : DeskAt w E d F most torn bg l v) (hs : s.size ≤ 1073741824) (hz : (flowP E bg l).length ≤ 549755813888 ∧ l.length ≤ 8589934592) :
    Calls Try.prog 19 #[.pointer (some ⟨d, 0, none⟩), .string s] w fun e w' => e = .returned (.tuple #[]) ∧ Keeps F w w' ∧ ∃ v', DeskAt w' E d (fun i => F i ∨ w.heap.size ≤ i) most torn bg (l ++ [.rep (toldP s.data.toList)]) v' := by
  have hlt := h.top.lt
  have H := Lib.hid h
  clear h
  go_enter Try.func19, Try.ntmps19
  go_wp2_with fail
  refine (dmade_yes w E d F most torn bg l v H.out).mono ?_
  rintro e w1 ⟨rfl, n1, rfl⟩
  go_wp2_with fail
  refine (told_any _ s hs).mono ?_
  rintro e w2 ⟨rfl, k2⟩
  have h2 := (H.out.drewN n1).keeps k2 (fun _ _ => id)
  go_wp2_with fail
  obtain ⟨tx, htx⟩ : ∃ tx, tx = str (toldP s.data.toList) := ⟨_, rfl⟩
  have K3 : Keeps (fun _ => False) w (w2.alloc (.cells #[.string tx] 92)) := (((Keeps.refl _ w).drewN n1).trans k2).alloc _
  have B3 := Blk.new w2 92 #[.string tx]
  rw [← htx]
  obtain ⟨w3, hw3⟩ : ∃ w3, w3 = w2.alloc (.cells #[.string tx] 92) := ⟨_, rfl⟩
  obtain ⟨r, hr⟩ : ∃ r, r = w2.heap.size := ⟨_, rfl⟩
  rw [← hw3] at K3 B3 ⊢
  rw [← hr] at B3 ⊢
  have h3 := H.out.keeps K3 (fun _ _ => id)
  have HTX := Lib.hid htx
  clear htx hw3 hr k2 h2 H hlt
  obtain ⟨vs, hvs⟩ : ∃ vs, vs = l.map DPart.val := ⟨_, rfl⟩
  have hvl : vs.length = l.length := by rw [hvs]; simp
  have hown := h3.own
  rw [← hvs] at hown
  obtain ⟨av, cv, rfl⟩ := hown.sl
  have hvd : ∀ i, rowB (.slice av vs.length cv) = some i → i ≠ d ∧ i ≠ r ∧ i < w3.heap.size := fun i hi => by
    obtain ⟨cs, hb⟩ := hown.row i hi
    exact ⟨hb.ne_ h3.top (by decide), hb.ne_ B3 (by decide), hb.lt⟩
  have hdr : d ≠ r := h3.top.ne_ B3 (by decide)
  have hd3 := h3.top.lt
  have hr3 := B3.lt
  have hcw : ∀ w', Keeps (fun i => rowB (.slice av vs.length cv) = some i) w3 w' → (w'.cell? ⟨d, 1, none⟩ = some (.slice av vs.length cv) ∧ w'.frozen? ⟨d, 1, none⟩ = false ∧ w'.cell? ⟨d, 2, none⟩ = some (.int .i64 (flowP E bg l).length) ∧ w'.frozen? ⟨d, 2, none⟩ = false) ∧ w'.cell? ⟨r, 0, none⟩ = some (.string tx) := fun w' kk => by
    have b1 := h3.top.keeps kk (fun e => (hvd d e).1 rfl)
    have b2 := B3.keeps kk (fun e => (hvd r e).2.1 rfl)
    exact ⟨⟨b1.cell 1, b1.frozen 1, b1.cell 2, b1.frozen 2⟩, b2.cell 0⟩
  have HCW := Lib.hid hcw
  obtain ⟨⟨d1, f1, d2, f2⟩, r0⟩ := hcw w3 (Keeps.refl _ _)
  have H3 := Lib.hid h3
  have HVD := Lib.hid hvd
  have HOW := Lib.hid hown
  have HVS := Lib.hid hvs
  obtain ⟨hlen1, hlen⟩ := hz
  clear hcw h3 hvd hown hvs
  have hts := toldP_len s.data.toList
  have hdl := dblP_len s.data.toList
  have hsl : s.data.toList.length = s.size := by simp
  have hxl : tx.size = (toldP s.data.toList).length := by rw [HTX.out]; rfl
  have hw : IntKind.i64.wrap (((flowP E bg l).length : Int) + (tx.size : Int)) = ((flowP E bg l).length : Int) + (tx.size : Int) := wrap_in (by omega) (by omega)
  have HXL := Lib.hid hxl
  have htn : toldP s.data.toList ≠ [] := by unfold toldP; simp
  have HTN := Lib.hid htn
  have HBD := Lib.hid (show (flowP E bg l).length + (toldP s.data.toList).length ≤ 1099511627776 ∧ l.length + 1 ≤ 1099511627776 from ⟨by omega, by omega⟩)
  clear hts hdl hsl hxl htn
  have hml : vs.length ≤ 17179869184 := by omega
  have HVL := Lib.hid hvl
  clear hvl
  have hnd : d ≠ w3.heap.size := by omega
  have hnr : r ≠ w3.heap.size := by omega
  go_region_law ((refine step_append_q rfl _ _ _ rfl 79 .nilIface 16 Try.underlying70 (by kernel_rfl) rfl (by omega) _ vs rfl (OwnQ.keeps (S := fun _ => False) HOW.out (by (repeat (first | (with_reducible assumption) | (with_reducible exact Keeps.refl _ _) | refine Keeps.drew ?_ | refine Keeps.drewN ?_ _ | refine Keeps.setCell ?_ (by simp) _ | refine Keeps.setRow ?_ (by simp) _ | refine Keeps.alloc ?_ _))) (fun _ _ _ => id)) ⟨w3.heap.size, 0, none⟩ 1 (.iface 92 (.agg #[.string tx])) rfl (by first | exact (Blk.new _ _ _).cell 0 | exact (Blk.new _ _ _).drew.cell 0) rfl hml ?_; intro v7 w7 O7 k7 hv7; obtain ⟨a7, n7, c7, rfl⟩ := O7.sl3; have kk7 : Keeps (fun i => rowB (.slice av vs.length cv) = some i) w3 w7 := (Keeps.and_ (by (repeat (first | (with_reducible assumption) | (with_reducible exact Keeps.refl _ _) | refine Keeps.drew ?_ | refine Keeps.drewN ?_ _ | refine Keeps.setCell ?_ (by simp) _ | refine Keeps.setRow ?_ (by simp) _ | refine Keeps.alloc ?_ _))) k7 (fun i _ h => h)); clear k7; obtain ⟨⟨e1, g1, e2, g2⟩, q0⟩ := HCW.out _ kk7))
  all_goals
    have B8 := ((H3.out.top.keeps kk7 (fun e => (HVD.out d e).1 rfl)).set_ 1 (.slice a7 n7 c7))
    have R8 := (B3.keeps kk7 (fun e => (HVD.out r e).2.1 rfl)).far (p := ⟨d, 1, none⟩) (fun e => hdr e.symm) (.slice a7 n7 c7)
    have K8 : Keeps (fun i => i = d ∨ rowB (.slice av vs.length cv) = some i) w3 (w7.setCell ⟨d, 1, none⟩ (.slice a7 n7 c7)) := (kk7.mono fun _ _ h => .inr h).setCell (p := ⟨d, 1, none⟩) (fun _ => .inl rfl) _
    have O8 := O7.keeps (S := fun i => i = d) ((Keeps.refl (fun i => i = d) w7).setCell (p := ⟨d, 1, none⟩) (fun _ => rfl) (.slice a7 n7 c7)) (fun i hi hb e => by
      obtain ⟨cs, hb⟩ := hb
      exact hb.ne_ (H3.out.top.keeps kk7 (fun e => (HVD.out d e).1 rfl)) (by decide) e)
    simp at B8
    generalize w7.setCell ⟨d, 1, none⟩ (.slice a7 n7 c7) = w8 at B8 R8 K8 O8 ⊢
    clear e1 g1 e2 g2 q0 O7 kk7
    have OO := Lib.hid O8
    clear O8
    have c2 := B8.cell 2
    have f2 := B8.frozen 2
    have cr := R8.cell 0
    simp at c2 cr
    have hd8 := B8.lt
    have hr8 := R8.lt
    go_wp2_with fail
    go_region_with ((go_at_call 42; go_must (refine (rsize_any _ _).mono ?_; rintro e w9 ⟨rfl, k9⟩; have k9 : Keeps (fun _ => False) w8 w9 := (by first | exact k9 | exact k9.from_drew); have B9 := B8.keeps k9 id; have c2 := B9.cell 2; have f2 := B9.frozen 2; simp at c2)))
  all_goals
    refine bodyPost_end (results_none rfl _ _ _) rfl ⟨rfl, ?_⟩
    have hv8 : rowB (.slice a7 n7 c7) = rowB (.slice av vs.length cv) ∨ ∃ k, rowB (.slice a7 n7 c7) = some k ∧ w.heap.size ≤ k := hv7.imp id (fun h => ⟨_, h, by have := K3.size; simp; omega⟩)
    have hO9 := OwnQ.keeps (S := fun _ => False) OO.out k9 (fun _ _ _ => id)
    rw [HVS.out, HTX.out] at hO9
    have T := tell_end (toldP s.data.toList) H3.out K3 (K8.trans k9.none_) hv8 B9 hO9 HTN.out HBD.out
    rw [Int.natCast_add, ← HXL.out] at T
    exact T
end
end Go.Proofs.Ytcblaeleaebinaa
