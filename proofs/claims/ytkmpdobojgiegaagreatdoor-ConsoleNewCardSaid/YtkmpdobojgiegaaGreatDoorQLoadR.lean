/-
  The document's answer on a log's generations (wheelhouseref21), and on what is torn and lost (wheelhouseref23).
-/
import Derived.Test.YtkmpdobojgiegaaGreatDoorQGround3
import Derived.Test.YtkmpdobojgiegaaGreatDoorQGround2
import Derived.Test.YtkmpdobojgiegaaGreatDoorQResE
import Derived.Deep.DeepCutAuto
import Derived.Deep.CutBlock
namespace Go.Proofs.YtkmpdobojgiegaaGreatDoor
open Go.RowKit Go.Maps

set_option maxRecDepth 100000 in
theorem rheld_any (w : World) (n : Int) : Calls Tryz.prog 120 #[.int .i64 n] w fun e w' => e = .returned (.int .i64 (heldP n : Nat)) ∧ w' = w := by
  have hh : ((heldP n : Nat) : Int) = max 1 (min n 16) := by unfold heldP; omega
  rw [hh]
  clear hh
  go_enter Tryz.func120, Tryz.ntmps120
  go_wp2_with fail
  go_ret
  exact ⟨rfl, rfl⟩
theorem docS_at {w : World} {v : Value} {most bad : Int} {xb : Nat} (hb : Blk w xb 43 #[v, .int .i64 most, .int .i64 bad]) : ∀ W, Keeps (fun _ => False) w W → W.cell? ⟨xb, 0, none⟩ = some v ∧ W.cell? ⟨xb, 1, none⟩ = some (.int .i64 most) ∧ W.cell? ⟨xb, 2, none⟩ = some (.int .i64 bad) := fun _ k => (hb.keeps k id).cells3
set_option maxRecDepth 100000 in
set_option maxHeartbeats 2000000 in
theorem rall_any (w : World) (v : Value) (most bad : Int) (l : List SFile) (base : ByteArray) (k : Int) (h : DocL w v l) (hl : l.length ≤ 4294967296) (hb : base.size ≤ 1048576) :
    Calls Tryz.prog 51 #[docS v most bad, .string base, .int .i64 k] w fun e w' => (∃ v', e = .returned v' ∧ OwnL w' w.heap.size 9 v' ((allP l base (heldP k)).map Value.string)) ∧ Keeps (fun _ => False) w w' := by
  have HD := Lib.hid h
  have HHE := Lib.hid (fun W => rheld_any W k)
  have HNM := Lib.hid (fun W (i : Int) h1 h2 => rgname_any W base i hb h1 h2)
  have HGE := Lib.hid (fun W (i : Int) (kk : Keeps (fun _ => False) w W) => rget_any W v most bad l (genName base i) (h.keeps kk) hl)
  obtain ⟨av, nv, cv, rfl⟩ := h.slc
  obtain ⟨hh1, hh2⟩ := heldP_le k
  obtain ⟨H, hH⟩ : ∃ H, H = heldP k := ⟨_, rfl⟩
  rw [← hH] at HHE hh1 hh2 ⊢
  have HX := Lib.hid (docS_at (w := w.alloc (docO (.slice av nv cv) most bad)) (Blk.new w 43 #[.slice av nv cv, .int .i64 most, .int .i64 bad]))
  clear hH h
  unfold docS docO docF at *
  go_enter Tryz.func51, Tryz.ntmps51
  go_wp2_with fail
  refine (HHE.out _).mono ?_
  rintro e w1 ⟨rfl, hw1⟩
  have HK1 := Lib.hid (show Keeps (fun _ => False) (w.alloc (.cells #[.slice av nv cv, .int .i64 most, .int .i64 bad] 43)) w1 by rw [hw1]; exact Keeps.refl _ _)
  clear hw1
  go_wp2_with fail
  go_loopw [7, 8] (fun u7 u8 wr => ∃ (m : Nat) (X : List ByteArray), m ≤ H ∧ u8 = .int .i64 ((m : Int) - 1) ∧ Hid (X.length + m ≤ 16 ∧ allP l base H = X ++ allP l base m ∧ OwnL wr w.heap.size 9 u7 (X.map Value.string) ∧ Keeps (fun _ => False) (w.alloc (.cells #[.slice av nv cv, .int .i64 most, .int .i64 bad] 43)) wr)) (fun _ u8 _ => (intOf u8 + 1).toNat)
  case atStart => exact ⟨H, [], Nat.le_refl _, rfl, Lib.hid ⟨by simp; omega, rfl, OwnL.none_ _ _ _, HK1.out⟩⟩
  case round =>
    obtain ⟨m, X, hm, rfl, HI⟩ := hrel
    rename World => wr
    have hkr : Keeps (fun _ => False) w wr := ((Keeps.refl _ _).alloc _).trans HI.out.2.2.2
    have HKR := Lib.hid hkr
    clear hkr
    rcases Nat.eq_zero_or_pos m with h0 | h0
    · subst h0
      go_wp2_with fail
      go_ret
      refine ⟨⟨_, rfl, ?_⟩, HKR.out⟩
      rw [HI.out.2.1]
      exact (by simpa [allP, downs] using HI.out.2.2.1)
    · obtain ⟨m, rfl⟩ : ∃ q, m = q + 1 := ⟨m - 1, by omega⟩
      have e1 : ((m + 1 : Nat) : Int) - 1 = (m : Int) := by omega
      rw [e1]
      obtain ⟨nm, hnm⟩ : ∃ nm, nm = genName base (m : Int) := ⟨_, rfl⟩
      have hN := fun W => HNM.out W (m : Int) (by omega) (by omega)
      have hG := fun W kk => HGE.out W (m : Int) kk
      rw [← hnm] at hN hG
      have HN := Lib.hid hN
      have HG := Lib.hid hG
      have hap := allP_succ l base m
      unfold genF at hap
      rw [← hnm] at hap
      have HAP := Lib.hid hap
      have hcx0 : ∀ W, Keeps (fun _ => False) wr W → W.cell? ⟨w.heap.size, 0, none⟩ = some (.slice av nv cv) := fun W kk => (HX.out W (HI.out.2.2.2.trans kk)).1
      have hcx1 : ∀ W, Keeps (fun _ => False) wr W → W.cell? ⟨w.heap.size, 1, none⟩ = some (.int .i64 most) := fun W kk => (HX.out W (HI.out.2.2.2.trans kk)).2.1
      have hcx2 : ∀ W, Keeps (fun _ => False) wr W → W.cell? ⟨w.heap.size, 2, none⟩ = some (.int .i64 bad) := fun W kk => (HX.out W (HI.out.2.2.2.trans kk)).2.2
      clear hN hG hnm hap e1
      have hsz := HKR.out.size
      go_upto_region 5 with (fail)
      go_cut [9, 10] (fun s9 s10 wx => ∃ (q : Nat) (f : SFile) (ok : Bool), s9 = .pointer (some ⟨q, 0, none⟩) ∧ s10 = .bool ok ∧ Hid (Blk wx q 118 #[.string f.name, .string f.data, .int .i64 (f.sure : Nat)] ∧ ((ok = true ∧ getG SFile.name nm l = some f) ∨ (ok = false ∧ getG SFile.name nm l = none)) ∧ Keeps (fun _ => False) wr wx))
      case first =>
        go_region_held3 (fun w2 => Keeps (fun _ => False) wr w2)
          ((repeat (first | (with_reducible assumption) | (with_reducible exact Keeps.refl _ _) | refine Keeps.drew ?_ | refine Keeps.drewN ?_ _ | refine Keeps.alloc ?_ _ | refine Keeps.setCell ?_ (fun h => by first | (simp at h; done) | (simp at h; omega)) _)))
          (first
            | (go_at_call 121; rename_i hk _ _; refine (HN.out _).mono ?_; rintro e w3 ⟨rfl, k3⟩; have kk : Keeps (fun _ => False) wr w3 := hk.trans k3; have kz := kk.size; try (have bn := Blk.keeps (Blk.new wr 118 #[.string { data := #[] }, .string { data := #[] }, .int .i64 0]) k3.from_drew id; obtain ⟨⟨n0, n1, n2⟩, nf0, nf1, nf2⟩ := bn.all3))
            | (go_at_call 52; rename_i hk _ _; refine (HG.out _ (HKR.out.trans hk)).mono ?_; rintro e w4 ⟨⟨f, ok, rfl, hf⟩, k4⟩; have kk4 : Keeps (fun _ => False) wr w4 := hk.trans k4; have HF := Lib.hid hf; clear hf; try ((first | have bn4 := bn.keeps k4 id | have bn4 := Blk.keeps (Blk.new w3 118 #[.string { data := #[] }, .string { data := #[] }, .int .i64 0]) k4 id); obtain ⟨⟨m0, m1, m2⟩, mf0, mf1, mf2⟩ := bn4.all3)))
        all_goals (go_wp2_with fail; go_meet)
        case rel => exact ⟨_, f, ok, rfl, rfl, Lib.hid ⟨Blk.new _ _ _, HF.out.imp id (fun h => ⟨h.1, h.2.2⟩), kk4.alloc _⟩⟩
        case rel => exact ⟨_, f, ok, rfl, rfl, Lib.hid ⟨((bn4.set_ 0 _).set_ 1 _).set_ 2 _, HF.out.imp id (fun h => ⟨h.1, h.2.2⟩), kk4.setC3 (by omega) _ _ _⟩⟩
        case rel => exact ⟨_, f, ok, rfl, rfl, Lib.hid ⟨((bn4.set_ 0 _).set_ 1 _).set_ 2 _, HF.out.imp id (fun h => ⟨h.1, h.2.2⟩), kk4.setC3 (by omega) _ _ _⟩⟩
      case rest =>
        obtain ⟨q, f, ok, rfl, rfl, HQ⟩ := hcut
        have hq := HQ.out.1
        obtain ⟨⟨q0, q1, q2⟩, -⟩ := hq.all3
        have hkx : Keeps (fun _ => False) w wc := HKR.out.trans HQ.out.2.2
        have HKX := Lib.hid hkx
        have hsx := hkx.size
        have HO := Lib.hid (OwnL.keeps (S := fun _ => False) HI.out.2.2.1 HQ.out.2.2 (fun _ _ _ => id))
        have HB := Lib.hid (HI.out.2.2.2.trans HQ.out.2.2)
        clear hq hkx
        rcases HQ.out.2.1 with ⟨rfl, hg⟩ | ⟨rfl, hg⟩
        · rw [hg] at HAP
          clear hg
          have hxl := HI.out.1
          go_wp2_with (with_reducible show wpList _ _ _ (⟨some 31, _, _, _, _, _⟩ :: _) _ _; go_must (refine wpList_append_onet rfl (.tmp 27) (.tmp 30) 69 rfl w.heap.size 9 (.string ⟨#[]⟩) 16 Tryz.underlying69 (by kernel_rfl) rfl (by omega) u7 (X.map Value.string) rfl (OwnL.keeps (S := fun _ => False) HO.out ((Keeps.refl _ _).alloc _) (fun _ _ _ => id)) ⟨wc.heap.size, 0, none⟩ 1 (.string f.data) rfl (by go_simp) rfl (by rw [List.length_map]; omega) (by simp; omega) ?_; intro v7 w7 O7 k7; have HO7 := Lib.hid O7; have HK7 := Lib.hid (Keeps.and_ (S := fun _ => False) (HB.out.alloc _) k7 (fun i hi e => by have h1 := e.1; obtain ⟨cs, hbs⟩ := e.2; have h2 : i = w.heap.size := (by simp at hi; omega); subst h2; exact absurd rfl (hbs.ne_ (((Blk.new w 43 #[.slice av nv cv, .int .i64 most, .int .i64 bad]).keeps HB.out id).alloc _) (by decide)))); clear O7 k7))
          exact ⟨⟨m, X ++ [f.data], by omega, by go_num, by rw [List.length_append]; simp only [List.length_cons, List.length_nil]; omega, by have := HI.out.2.1; rw [HAP.out] at this; rw [this]; simp, by rw [List.map_append]; exact HO7.out, HK7.out⟩, by simp [intOf]⟩
        · rw [hg] at HAP
          clear hg
          have hxl := HI.out.1
          go_wp2_with fail
          exact ⟨⟨m, X, by omega, by go_num, by omega, by have := HI.out.2.1; rw [HAP.out] at this; exact this, HO.out, HB.out⟩, by simp [intOf]⟩
end Go.Proofs.YtkmpdobojgiegaaGreatDoor
