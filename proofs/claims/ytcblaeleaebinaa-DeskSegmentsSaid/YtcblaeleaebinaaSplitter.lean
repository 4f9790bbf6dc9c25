/-
  mux.Splitter: step, Check, by walk.
-/
import Derived.Test.YtcblaeleaebinaaMux
import Derived.Test.YtcblaeleaebinaaOwnQ
import Derived.Test.YtcblaeleaebinaaOwnT
import Derived.Test.YtcblaeleaebinaaDeskF
namespace Go.Proofs.Ytcblaeleaebinaa
open Go.RowKit

/-- one byte more: where one is, what of a reply is there, the console's byte, whether a reply ends -/
def stepP (a : Nat) (op : List UInt8) (c : UInt8) : (Nat × List UInt8) × (List UInt8 × Bool) :=
  if a = 0 then (if c = 255 then ((1, op), ([], false)) else ((0, op), ([c], false)))
  else if a = 1 then (if c = 255 then ((0, op), ([c], false)) else if c = 1 then ((2, op), ([], false)) else ((4, op), ([], false)))
  else if a = 3 then (if c = 2 then ((0, op), ([], true)) else if c = 255 then ((2, op ++ [c]), ([], false)) else ((4, op), ([], false)))
  else if a = 2 then (if c = 255 then ((3, op), ([], false)) else ((2, op ++ [c]), ([], false)))
  else ((a, op), ([], false))

/-- the console's byte as step hands it back: nothing, or a new row of one byte -/
def OneB (w : World) (B : Nat) (v : Value) (l : List UInt8) : Prop :=
  (l = [] ∧ v = .slice none 0 0) ∨ ∃ r c, B ≤ r ∧ l = [c] ∧ v = .slice (some ⟨r, 0, none⟩) 1 1 ∧ Blk w r 5 #[.int .u8 c.toNat]

/-- what step leaves -/
def Stepped (w : World) (sp : Nat) (v : Value) (a : Nat) (op : List UInt8) (c : UInt8) (e : Ending) (w' : World) : Prop :=
  ∃ vb v', e = .returned (.tuple #[vb, .bool (stepP a op c).2.2]) ∧ OneB w' w.heap.size vb (stepP a op c).2.1 ∧ Blk w' sp 57 #[.int .i64 (stepP a op c).1.1, v'] ∧ OwnQ w' 5 v' (u8Vs (stepP a op c).1.2) ∧
    (rowB v' = rowB v ∨ ∃ r, rowB v' = some r ∧ w.heap.size ≤ r) ∧ Keeps (fun i => i = sp ∨ rowB v = some i) w w'

section
variable (w : World) (sp : Nat) (v : Value) (op : List UInt8) (c : UInt8)
/-- nothing is done to what of a reply is there -/
theorem stepped_plain {w' : World} {a a' : Nat} {vb : Value} {ended : Bool} {bs : List UInt8} (ho : OwnQ w 5 v (u8Vs op)) (hb : Blk w sp 57 #[.int .i64 a, v])
    (hst : stepP a op c = ((a', op), (bs, ended))) (K : Keeps (fun i => i = sp) w w') (hb' : Blk w' sp 57 #[.int .i64 a', v]) (h1 : OneB w' w.heap.size vb bs) :
    Stepped w sp v a op c (.returned (.tuple #[vb, .bool ended])) w' := by
  unfold Stepped
  rw [hst]
  exact ⟨vb, v, rfl, h1, hb', ho.keeps K (fun i hi ⟨cs, hc⟩ e => hc.ne_ hb (by decide) e), .inl rfl, K.mono fun i _ e => .inl e⟩

/-- a byte of a reply more -/
theorem stepped_more {wa w8 : World} {a a' : Nat} {v8 : Value} (ho : OwnQ w 5 v (u8Vs op)) (hb : Blk w sp 57 #[.int .i64 a, v])
    (hst : stepP a op c = ((a', op ++ [c]), ([], false))) (K : Keeps (fun i => i = sp) w wa) (hba : Blk wa sp 57 #[.int .i64 a', v])
    (O8 : OwnQ w8 5 v8 (u8Vs op ++ [.int .u8 c.toNat])) (K8 : Keeps (fun i => rowB v = some i) wa w8) (hr : rowB v8 = rowB v ∨ rowB v8 = some wa.heap.size) :
    Stepped w sp v a op c (.returned (.tuple #[.slice none 0 0, .bool false])) (w8.setCell ⟨sp, 1, none⟩ v8) := by
  unfold Stepped
  rw [hst]
  have hrs : ∀ i, rowB v = some i → i ≠ sp := fun i hi => by obtain ⟨cs, hc⟩ := ho.row i hi; exact hc.ne_ hb (by decide)
  have ks : Keeps (fun i => i = sp) w8 (w8.setCell ⟨sp, 1, none⟩ v8) := (Keeps.refl (fun i => i = sp) w8).setCell (p := ⟨sp, 1, none⟩) (fun _ => rfl) _
  have hb8 : Blk w8 sp 57 #[.int .i64 a', v] := hba.keeps K8 (fun e => absurd rfl (hrs sp e))
  refine ⟨_, v8, rfl, .inl ⟨rfl, rfl⟩, ?_, ?_, ?_, ?_⟩
  · have := hb8.set_ 1 v8
    simpa using this
  · have h1 := O8.keeps ks (fun i hi ⟨cs, hc⟩ e => hc.ne_ hb8 (by decide) e)
    unfold u8Vs at h1 ⊢
    simpa using h1
  · rcases hr with hr | hr
    · exact .inl hr
    · exact .inr ⟨_, hr, K.size⟩
  · exact ((K.mono fun i _ e => .inl e).trans (K8.mono fun i _ e => .inr e)).trans (ks.mono fun i _ e => .inl e)

set_option maxRecDepth 100000 in
set_option maxHeartbeats 2000000 in
theorem step_any (a : Nat) (hb : Blk w sp 57 #[.int .i64 a, v]) (ho : OwnQ w 5 v (u8Vs op)) (ha : a ≤ 4) (hop : op.length ≤ 8589934592) :
    Calls Try.prog 45 #[.pointer (some ⟨sp, 0, none⟩), .int .u8 c.toNat] w (Stepped w sp v a op c) := by
  have c0 := hb.cell 0
  have f0 := hb.frozen 0
  simp at c0
  have HB := Lib.hid hb
  have HO := Lib.hid ho
  have hlt := hb.lt
  rcases (show a = 0 ∨ a = 1 ∨ a = 3 ∨ a = 2 ∨ a = 4 from by omega) with rfl | rfl | rfl | rfl | rfl
  · clear hb ho
    by_cases h255 : c = 255
    · subst h255
      go_enter Try.func45, Try.ntmps45
      go_wp2_with fail
      go_ret2
      refine stepped_plain w sp v op 255 HO.out HB.out (a' := 1) (by simp [stepP]) ((Keeps.refl (fun i => i = sp) w).setCell (p := ⟨sp, 0, none⟩) (fun _ => rfl) _) (by simpa using HB.out.set_ 0 (.int .i64 1)) (.inl ⟨rfl, rfl⟩)
    · have hn : c.toNat ≠ 255 := fun h => h255 (UInt8.toNat_inj.1 (by simpa using h))
      have h1 : ((c.toNat : Int) == 255) = false := by rw [beq_eq_false_iff_ne]; omega
      have h2 : ((c.toNat : Int) != 255) = true := by rw [bne, h1]; rfl
      have HE := Lib.hid h255
      clear h255
      go_enter Try.func45, Try.ntmps45
      go_wp2_with fail
      go_ret2
      refine stepped_plain w sp v op c HO.out HB.out (a' := 0) (by simp [stepP, HE.out]) ((Keeps.refl (fun i => i = sp) w).alloc _) (HB.out.alloc _) (.inr ⟨w.heap.size, c, Nat.le_refl _, rfl, rfl, Blk.new _ _ _⟩)
  · clear hb ho
    by_cases h255 : c = 255
    · subst h255
      go_enter Try.func45, Try.ntmps45
      go_wp2_with fail
      go_ret2
      refine stepped_plain w sp v op 255 HO.out HB.out (a' := 0) (by simp [stepP]) ((((Keeps.refl (fun i => i = sp) w).setCell (p := ⟨sp, 0, none⟩) (fun _ => rfl) (.int .i64 4)).setCell (p := ⟨sp, 0, none⟩) (fun _ => rfl) (.int .i64 0)).alloc _) (by simpa using ((HB.out.set_ 0 (.int .i64 4)).set_ 0 (.int .i64 0)).alloc _) (.inr ⟨w.heap.size, 255, Nat.le_refl _, rfl, rfl, blk_new (by simp)⟩)
    · have hn255 : c.toNat ≠ 255 := fun h => h255 (UInt8.toNat_inj.1 (by simpa using h))
      have p255 : ((c.toNat : Int) == 255) = false := by rw [beq_eq_false_iff_ne]; omega
      have q255 : ((c.toNat : Int) != 255) = true := by rw [bne, p255]; rfl
      have HE255 := Lib.hid h255
      clear h255
      by_cases h1 : c = 1
      · subst h1
        go_enter Try.func45, Try.ntmps45
        go_wp2_with fail
        go_ret2
        exact stepped_plain w sp v op 1 HO.out HB.out (a' := 2) (by simp [stepP]) (((Keeps.refl (fun i => i = sp) w).setCell (p := ⟨sp, 0, none⟩) (fun _ => rfl) (.int .i64 4)).setCell (p := ⟨sp, 0, none⟩) (fun _ => rfl) (.int .i64 2)) (by simpa using ((HB.out.set_ 0 (.int .i64 4)).set_ 0 (.int .i64 2))) (.inl ⟨rfl, rfl⟩)
      · have hn1 : c.toNat ≠ 1 := fun h => h1 (UInt8.toNat_inj.1 (by simpa using h))
        have p1 : ((c.toNat : Int) == 1) = false := by rw [beq_eq_false_iff_ne]; omega
        have q1 : ((c.toNat : Int) != 1) = true := by rw [bne, p1]; rfl
        have HE1 := Lib.hid h1
        clear h1
        go_enter Try.func45, Try.ntmps45
        go_wp2_with fail
        go_ret2
        exact stepped_plain w sp v op c HO.out HB.out (a' := 4) (by simp [stepP, HE255.out, HE1.out]) ((Keeps.refl (fun i => i = sp) w).setCell (p := ⟨sp, 0, none⟩) (fun _ => rfl) (.int .i64 4)) (by simpa using (HB.out.set_ 0 (.int .i64 4))) (.inl ⟨rfl, rfl⟩)
  · obtain ⟨a7, n7, c7, rfl⟩ := ho.sl3
    have c1 := hb.cell 1
    have f1 := hb.frozen 1
    simp at c1
    have hrs : ∀ i, rowB (.slice a7 n7 c7) = some i → i ≠ sp := fun i hi => by obtain ⟨cs, hc⟩ := ho.row i hi; exact hc.ne_ hb (by decide)
    have hoq : ∀ w', Keeps (fun i => i = sp) w w' → OwnQ w' 5 (.slice a7 n7 c7) (u8Vs op) := fun w' k => ho.keeps k (fun i hi _ e => hrs i hi e)
    have HOQ := Lib.hid hoq
    have HRS := Lib.hid hrs
    clear hb ho hoq hrs
    by_cases h2 : c = 2
    · subst h2
      go_enter Try.func45, Try.ntmps45
      go_wp2_with fail
      go_ret2
      exact stepped_plain w sp (.slice a7 n7 c7) op 2 HO.out HB.out (a' := 0) (by simp [stepP]) (((Keeps.refl (fun i => i = sp) w).setCell (p := ⟨sp, 0, none⟩) (fun _ => rfl) (.int .i64 4)).setCell (p := ⟨sp, 0, none⟩) (fun _ => rfl) (.int .i64 0)) (by simpa using ((HB.out.set_ 0 (.int .i64 4)).set_ 0 (.int .i64 0))) (.inl ⟨rfl, rfl⟩)
    · have hn2 : c.toNat ≠ 2 := fun h => h2 (UInt8.toNat_inj.1 (by simpa using h))
      have p2 : ((c.toNat : Int) == 2) = false := by rw [beq_eq_false_iff_ne]; omega
      have q2 : ((c.toNat : Int) != 2) = true := by rw [bne, p2]; rfl
      have HE2 := Lib.hid h2
      clear h2
      by_cases h255 : c = 255
      · subst h255
        go_enter Try.func45, Try.ntmps45
        go_wp2_with (with_reducible show wpList _ _ _ (⟨some 59, _, _, _, _, _⟩ :: _) _ _; go_must (refine wpList_append_q rfl (.tmp 56) (.tmp 58) _ rfl 5 (.int .u8 0) 1 Try.underlying55 (by kernel_rfl) rfl (by omega) (.slice a7 n7 c7) (u8Vs op) rfl (HOQ.out _ ((((Keeps.refl (fun i => i = sp) w).setCell (p := ⟨sp, 0, none⟩) (fun _ => rfl) (.int .i64 4)).setCell (p := ⟨sp, 0, none⟩) (fun _ => rfl) (.int .i64 2)).alloc _)) _ _ (.int .u8 255) rfl (cell_new (by simp)) rfl (by rw [u8Vs_len]; omega) ?_; intro v8 w8 O8 k8 hv8; obtain ⟨a8, n8, c8, rfl⟩ := O8.sl3; have B8 := (((HB.out.set_ 0 (.int .i64 4)).set_ 0 (.int .i64 2)).alloc _).keeps k8 (fun e => absurd rfl (HRS.out sp e)); have y1 := B8.cell 1; have z1 := B8.frozen 1; simp at y1; have HO8 := Lib.hid O8; have HK8 := Lib.hid k8; have HV8 := Lib.hid hv8; clear O8 k8 hv8 B8))
        go_ret2
        exact stepped_more w sp (.slice a7 n7 c7) op 255 HO.out HB.out (a' := 2) (by simp [stepP]) ((((Keeps.refl (fun i => i = sp) w).setCell (p := ⟨sp, 0, none⟩) (fun _ => rfl) (.int .i64 4)).setCell (p := ⟨sp, 0, none⟩) (fun _ => rfl) (.int .i64 2)).alloc _) (by simpa using ((HB.out.set_ 0 (.int .i64 4)).set_ 0 (.int .i64 2)).alloc _) HO8.out HK8.out HV8.out
      · have hn255 : c.toNat ≠ 255 := fun h => h255 (UInt8.toNat_inj.1 (by simpa using h))
        have p255 : ((c.toNat : Int) == 255) = false := by rw [beq_eq_false_iff_ne]; omega
        have q255 : ((c.toNat : Int) != 255) = true := by rw [bne, p255]; rfl
        have HE255 := Lib.hid h255
        clear h255
        go_enter Try.func45, Try.ntmps45
        go_wp2_with fail
        go_ret2
        exact stepped_plain w sp (.slice a7 n7 c7) op c HO.out HB.out (a' := 4) (by simp [stepP, HE2.out, HE255.out]) ((Keeps.refl (fun i => i = sp) w).setCell (p := ⟨sp, 0, none⟩) (fun _ => rfl) (.int .i64 4)) (by simpa using (HB.out.set_ 0 (.int .i64 4))) (.inl ⟨rfl, rfl⟩)
  · obtain ⟨a7, n7, c7, rfl⟩ := ho.sl3
    have c1 := hb.cell 1
    have f1 := hb.frozen 1
    simp at c1
    have hrs : ∀ i, rowB (.slice a7 n7 c7) = some i → i ≠ sp := fun i hi => by obtain ⟨cs, hc⟩ := ho.row i hi; exact hc.ne_ hb (by decide)
    have hoq : ∀ w', Keeps (fun i => i = sp) w w' → OwnQ w' 5 (.slice a7 n7 c7) (u8Vs op) := fun w' k => ho.keeps k (fun i hi _ e => hrs i hi e)
    have HOQ := Lib.hid hoq
    have HRS := Lib.hid hrs
    clear hb ho hoq hrs
    by_cases h255 : c = 255
    · subst h255
      go_enter Try.func45, Try.ntmps45
      go_wp2_with fail
      go_ret2
      exact stepped_plain w sp (.slice a7 n7 c7) op 255 HO.out HB.out (a' := 3) (by simp [stepP]) ((Keeps.refl (fun i => i = sp) w).setCell (p := ⟨sp, 0, none⟩) (fun _ => rfl) (.int .i64 3)) (by simpa using (HB.out.set_ 0 (.int .i64 3))) (.inl ⟨rfl, rfl⟩)
    · have hn255 : c.toNat ≠ 255 := fun h => h255 (UInt8.toNat_inj.1 (by simpa using h))
      have p255 : ((c.toNat : Int) == 255) = false := by rw [beq_eq_false_iff_ne]; omega
      have q255 : ((c.toNat : Int) != 255) = true := by rw [bne, p255]; rfl
      have HE255 := Lib.hid h255
      clear h255
      go_enter Try.func45, Try.ntmps45
      go_wp2_with (with_reducible show wpList _ _ _ (⟨some 76, _, _, _, _, _⟩ :: _) _ _; go_must (refine wpList_append_q rfl (.tmp 73) (.tmp 75) _ rfl 5 (.int .u8 0) 1 Try.underlying55 (by kernel_rfl) rfl (by omega) (.slice a7 n7 c7) (u8Vs op) rfl (HOQ.out _ ((Keeps.refl (fun i => i = sp) w).alloc _)) _ _ (.int .u8 c.toNat) rfl (cell_new (by simp)) rfl (by rw [u8Vs_len]; omega) ?_; intro v8 w8 O8 k8 hv8; obtain ⟨a8, n8, c8, rfl⟩ := O8.sl3; have B8 := (HB.out.alloc _).keeps k8 (fun e => absurd rfl (HRS.out sp e)); have y1 := B8.cell 1; have z1 := B8.frozen 1; simp at y1; have HO8 := Lib.hid O8; have HK8 := Lib.hid k8; have HV8 := Lib.hid hv8; clear O8 k8 hv8 B8))
      go_ret2
      exact stepped_more w sp (.slice a7 n7 c7) op c HO.out HB.out (a' := 2) (by simp [stepP, HE255.out]) ((Keeps.refl (fun i => i = sp) w).alloc _) (by simpa using HB.out.alloc _) HO8.out HK8.out HV8.out
  · clear hb ho
    go_enter Try.func45, Try.ntmps45
    go_wp2_with fail
    go_ret2
    exact stepped_plain w sp v op c HO.out HB.out (a' := 4) (by simp [stepP]) (Keeps.refl _ _) HB.out (.inl ⟨rfl, rfl⟩)
end
end Go.Proofs.Ytcblaeleaebinaa
