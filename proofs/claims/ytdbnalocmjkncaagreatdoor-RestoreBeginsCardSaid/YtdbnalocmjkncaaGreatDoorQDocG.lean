/-
  The document's store (wheelhouseref11): Append.
-/
import Derived.Test.YtdbnalocmjkncaaGreatDoorQDocF
namespace Go.Proofs.YtdbnalocmjkncaaGreatDoor
open Go.RowKit Go.Maps
set_option linter.unusedSimpArgs false


set_option maxRecDepth 100000 in
set_option maxHeartbeats 16000000 in
theorem rappend_any (w : World) (v : Value) (most : Int) (bad : Nat) (l : List SFile) (nm b : ByteArray) (h : DocL w v l) (hl : l.length ≤ 4294967296) (hn : nm.size ≤ 4611686018427387904) (hb : bad ≤ 9223372036854775807) (hd : ∀ f ∈ l, f.data.size ≤ 1073741824) (ht : totF l ≤ 1099511627776) (hbz : b.size ≤ 1099511627776) :
    Calls Tryz.prog 30 #[docS v most bad, .string nm, .string b] w (DocAfter w most (appendP most bad l nm b)) := by
  have hB := fun W => rbegin_any W v most bad nm h.slc hn hb
  obtain ⟨c, hc⟩ : ∃ c, c = (beginC bad nm).1 := ⟨_, rfl⟩
  obtain ⟨b', hb'⟩ : ∃ b', b' = (beginC bad nm).2 := ⟨_, rfl⟩
  rw [← hc, ← hb'] at hB
  have HB := Lib.hid hB
  have H := Lib.hid h
  obtain ⟨a0, n0, c0, rfl⟩ := h.slc
  have HDT := Lib.hid hd
  obtain ⟨T, hT⟩ : ∃ T, T = totF l := ⟨_, rfl⟩
  rw [← hT] at ht
  clear h hB
  have HT := Lib.hid hT
  by_cases h0 : c = 0
  · by_cases hfull : most < (T : Int) + b.size
    · have hsync : appendP most bad l nm b = (6, b', l) := by
        unfold appendP
        rw [if_neg (by rw [← hc, h0]; simp), if_pos (by rw [← hT]; exact hfull), ← hb']
      rw [hsync]
      subst h0
      clear hT
      have hw : IntKind.i64.wrap ((T : Int) + b.size) = T + b.size := IntWalk.i64_in _ (by omega)
      have hcmp : decide (most < IntKind.i64.wrap ((T : Int) + b.size)) = true := by rw [hw]; exact decide_eq_true hfull
      have hcmp2 : decide (most < (T : Int) + b.size) = true := decide_eq_true hfull
      clear hsync hc hb'
      unfold docS at *
      go_enter Tryz.func30, Tryz.ntmps30
      go_wp2_with fail
      refine (HB.out _).mono ?_
      rintro e w2 ⟨rfl, k1⟩
      have k2 : Keeps (fun _ => False) w w2 := Keeps.trans (by (repeat (first | (with_reducible assumption) | (with_reducible exact Keeps.refl _ _) | refine Keeps.drew ?_ | refine Keeps.drewN ?_ _ | refine Keeps.setCell ?_ (by simp) _ | refine Keeps.setRow ?_ (by simp) _ | refine Keeps.alloc ?_ _))) k1
      have bx := ((Blk.new w 27 #[.slice a0 n0 c0, .int .i64 most, .int .i64 bad]).alloc (.cells #[.slice none 0 0, .int .i64 0, .int .i64 0] 27)).keeps k1 id
      have bz := (Blk.new2 w (.cells #[.slice a0 n0 c0, .int .i64 most, .int .i64 bad] 27) 27 #[.slice none 0 0, .int .i64 0, .int .i64 0]).keeps k1 id
      have HK2 := Lib.hid k2
      have HBX := Lib.hid bx
      have HBZ := Lib.hid bz
      obtain ⟨x0, x1, x2⟩ := bx.all3
      obtain ⟨z0, z1, z2⟩ := bz.all3
      clear k1 k2 bx bz
      go_wp2_with fail
      obtain ⟨W, hW⟩ : ∃ W, W = ((w2.setCell ⟨w.heap.size, 0, none⟩ (.slice a0 n0 c0)).setCell ⟨w.heap.size, 1, none⟩ (.int .i64 most)).setCell ⟨w.heap.size, 2, none⟩ (.int .i64 b') := ⟨_, rfl⟩
      rw [← hW]
      have hkW : Keeps (fun _ => False) w W := by rw [hW]; exact HK2.out.set3 (Nat.le_refl _) _ _ _
      have bxW : Blk W w.heap.size 27 #[.slice a0 n0 c0, .int .i64 most, .int .i64 b'] := by rw [hW]; exact HBX.out.set3 _ _ _
      have bzW : Blk W (w.heap.size + 1) 27 #[.slice none 0 0, .int .i64 0, .int .i64 0] := by rw [hW]; exact HBZ.out.far3 (by omega) _ _ _
      have hnW := hkW.size
      have hlW := bzW.lt
      clear x0 x1 x2 z0 z1 z2
      obtain ⟨x0, x1, x2⟩ := bxW.cells3
      obtain ⟨i0, i1, i2⟩ := (bxW.alloc (.cells #[.slice a0 n0 c0, .int .i64 most, .int .i64 b'] 27)).cells3
      have HKW := Lib.hid hkW
      have HBXW := Lib.hid bxW
      have HBZW := Lib.hid bzW
      clear hW hkW bxW bzW HK2 HBX HBZ
      clear i0 i1 i2
      go_region_held3 (fun w' => (w'.cell? ⟨w.heap.size, 0, none⟩ = some (.slice a0 n0 c0) ∧ w'.cell? ⟨w.heap.size, 1, none⟩ = some (.int .i64 most) ∧ w'.cell? ⟨w.heap.size, 2, none⟩ = some (.int .i64 b')) ∧ Keeps (fun _ => False) W w')
        ((first | exact ⟨⟨x0, x1, x2⟩, by (repeat (first | (with_reducible assumption) | (with_reducible exact Keeps.refl _ _) | refine Keeps.drew ?_ | refine Keeps.drewN ?_ _ | refine Keeps.setCell ?_ (by simp) _ | refine Keeps.setRow ?_ (by simp) _ | refine Keeps.alloc ?_ _))⟩ | exact ⟨⟨d0, d1, d2⟩, kk⟩))
        ((go_at_call 80; rename_i hh _ _; refine (rtotal_any _ (.slice a0 n0 c0) most b' l (H.out.keeps (HKW.out.trans hh.2)) hl HDT.out).mono ?_; rintro e w3 ⟨rfl, hw3⟩; rw [← HT.out]; have kk : Keeps (fun _ => False) W w3 := hh.2.trans (hw3 ▸ (Keeps.refl _ _).alloc _); obtain ⟨d0, d1, d2⟩ := (HBXW.out.keeps kk id).cells3; clear hw3))
      have HK3 := Lib.hid kk
      clear x0 x1 x2 d0 d1 d2 kk
      obtain ⟨x0, x1, x2⟩ := (HBXW.out.keeps HK3.out id).all3
      obtain ⟨z0, z1, z2⟩ := (HBZW.out.keeps HK3.out id).all3
      go_wp2_with fail
      (
        try simp only [Exit.inBlock, Exit.then]
        refine ret_cell_tmp rfl (w.heap.size + 1) 27 _ _ rfl ((HBZW.out.keeps HK3.out id).set3 _ _ _) Tryz.underlying27 rfl (by kernel_rfl) rfl ?_
        exact ⟨_, rfl, H.out.keeps ((HKW.out.trans HK3.out).set3 (by omega) _ _ _), (HKW.out.trans HK3.out).set3 (by omega) _ _ _⟩)
    · cases hg : getG SFile.name nm l with
      | some f =>
        have hfd := hd f (List.mem_of_find?_eq_some hg)
        have hsync : appendP most bad l nm b = (0, b', putG SFile.name ⟨nm, f.data ++ b, f.sure⟩ l) := by
          unfold appendP
          rw [if_neg (by rw [← hc, h0]; simp), if_neg (by rw [← hT]; exact hfull), ← hb', hg]
        rw [hsync]
        subst h0
        clear hT
        have hw : IntKind.i64.wrap ((T : Int) + b.size) = T + b.size := IntWalk.i64_in _ (by omega)
        have hcmp : decide (most < IntKind.i64.wrap ((T : Int) + b.size)) = false := by rw [hw]; exact decide_eq_false hfull
        have hcmp2 : decide (most < (T : Int) + b.size) = false := decide_eq_false hfull
        clear hsync hc hb'
        unfold docS at *
        go_enter Tryz.func30, Tryz.ntmps30
        go_wp2_with fail
        refine (HB.out _).mono ?_
        rintro e w2 ⟨rfl, k1⟩
        have k2 : Keeps (fun _ => False) w w2 := Keeps.trans (by (repeat (first | (with_reducible assumption) | (with_reducible exact Keeps.refl _ _) | refine Keeps.drew ?_ | refine Keeps.drewN ?_ _ | refine Keeps.setCell ?_ (by simp) _ | refine Keeps.setRow ?_ (by simp) _ | refine Keeps.alloc ?_ _))) k1
        have bx := ((Blk.new w 27 #[.slice a0 n0 c0, .int .i64 most, .int .i64 bad]).alloc (.cells #[.slice none 0 0, .int .i64 0, .int .i64 0] 27)).keeps k1 id
        have bz := (Blk.new2 w (.cells #[.slice a0 n0 c0, .int .i64 most, .int .i64 bad] 27) 27 #[.slice none 0 0, .int .i64 0, .int .i64 0]).keeps k1 id
        have HK2 := Lib.hid k2
        have HBX := Lib.hid bx
        have HBZ := Lib.hid bz
        obtain ⟨x0, x1, x2⟩ := bx.all3
        obtain ⟨z0, z1, z2⟩ := bz.all3
        clear k1 k2 bx bz
        go_wp2_with fail
        obtain ⟨W, hW⟩ : ∃ W, W = ((w2.setCell ⟨w.heap.size, 0, none⟩ (.slice a0 n0 c0)).setCell ⟨w.heap.size, 1, none⟩ (.int .i64 most)).setCell ⟨w.heap.size, 2, none⟩ (.int .i64 b') := ⟨_, rfl⟩
        rw [← hW]
        have hkW : Keeps (fun _ => False) w W := by rw [hW]; exact HK2.out.set3 (Nat.le_refl _) _ _ _
        have bxW : Blk W w.heap.size 27 #[.slice a0 n0 c0, .int .i64 most, .int .i64 b'] := by rw [hW]; exact HBX.out.set3 _ _ _
        have bzW : Blk W (w.heap.size + 1) 27 #[.slice none 0 0, .int .i64 0, .int .i64 0] := by rw [hW]; exact HBZ.out.far3 (by omega) _ _ _
        have hnW := hkW.size
        have hlW := bzW.lt
        clear x0 x1 x2 z0 z1 z2
        obtain ⟨x0, x1, x2⟩ := bxW.cells3
        obtain ⟨i0, i1, i2⟩ := (bxW.alloc (.cells #[.slice a0 n0 c0, .int .i64 most, .int .i64 b'] 27)).cells3
        have HKW := Lib.hid hkW
        have HBXW := Lib.hid bxW
        have HBZW := Lib.hid bzW
        clear hW hkW bxW bzW HK2 HBX HBZ
        clear i0 i1 i2
        go_region_held3 (fun w' => (w'.cell? ⟨w.heap.size, 0, none⟩ = some (.slice a0 n0 c0) ∧ w'.cell? ⟨w.heap.size, 1, none⟩ = some (.int .i64 most) ∧ w'.cell? ⟨w.heap.size, 2, none⟩ = some (.int .i64 b')) ∧ Keeps (fun _ => False) W w')
          ((first | exact ⟨⟨x0, x1, x2⟩, by (repeat (first | (with_reducible assumption) | (with_reducible exact Keeps.refl _ _) | refine Keeps.drew ?_ | refine Keeps.drewN ?_ _ | refine Keeps.setCell ?_ (by simp) _ | refine Keeps.setRow ?_ (by simp) _ | refine Keeps.alloc ?_ _))⟩ | exact ⟨⟨d0, d1, d2⟩, kk⟩))
          ((go_at_call 80; rename_i hh _ _; refine (rtotal_any _ (.slice a0 n0 c0) most b' l (H.out.keeps (HKW.out.trans hh.2)) hl HDT.out).mono ?_; rintro e w3 ⟨rfl, hw3⟩; rw [← HT.out]; have kk : Keeps (fun _ => False) W w3 := hh.2.trans (hw3 ▸ (Keeps.refl _ _).alloc _); obtain ⟨d0, d1, d2⟩ := (HBXW.out.keeps kk id).cells3; clear hw3))
        have HK3 := Lib.hid kk
        clear x0 x1 x2 d0 d1 d2 kk
        obtain ⟨x0, x1, x2⟩ := (HBXW.out.keeps HK3.out id).all3
        obtain ⟨z0, z1, z2⟩ := (HBZW.out.keeps HK3.out id).all3
        go_wp2_with fail
        refine (rget_any _ (.slice a0 n0 c0) most b' l nm (H.out.keeps (HKW.out.trans HK3.out)) hl).mono ?_
        rintro e w4 ⟨⟨f', ok, rfl, hf⟩, k4⟩
        have HK4 := Lib.hid ((HKW.out.trans HK3.out).trans k4)
        have HBX4 := Lib.hid ((HBXW.out.keeps HK3.out id).keeps k4 id)
        have HBZ4 := Lib.hid ((HBZW.out.keeps HK3.out id).keeps k4 id)
        have hz4 := HBZ4.out.lt
        clear x0 x1 x2 z0 z1 z2
        obtain ⟨x0, x1, x2⟩ := HBX4.out.all3
        obtain ⟨z0, z1, z2⟩ := HBZ4.out.all3
        clear k4
        have hff : ok = true ∧ f' = f := by
          rcases hf with ⟨e1, e2⟩ | ⟨_, _, e2⟩
          · exact ⟨e1, Option.some.inj (e2.symm.trans hg)⟩
          · rw [hg] at e2; cases e2
        obtain ⟨rfl, rfl⟩ := hff
        clear hf hg
        unfold docF
        obtain ⟨y0, y1, y2⟩ := (HBX4.out.alloc (.cells #[.string f'.name, .string f'.data, .int .i64 (f'.sure : Nat)] 99)).all3
        obtain ⟨t0, t1, t2⟩ := (HBZ4.out.alloc (.cells #[.string f'.name, .string f'.data, .int .i64 (f'.sure : Nat)] 99)).all3
        go_wp2_with fail
        clear y0 y1 y2 t0 t1 t2
        have hw5 := rwith_any (w4.alloc (.cells #[.string f'.name, .string f'.data, .int .i64 (f'.sure : Nat)] 99)) (.slice a0 n0 c0) l ⟨nm, f'.data ++ b, f'.sure⟩ (H.out.keeps (HK4.out.alloc _)) hl
        simp only [docF, Int.cast_ofNat_Int] at hw5
        refine hw5.mono ?_
        clear hw5
        rintro e w5 ⟨v5, rfl, O5, k5⟩
        obtain ⟨a5, m5, c5, hv5⟩ := OwnS.sl3 O5
        subst hv5
        have HO5 := Lib.hid O5
        clear O5
        have hk : Keeps (fun _ => False) w w5 := (HK4.out.alloc _).trans k5
        have bx := (HBX4.out.alloc _).keeps k5 id
        have bz := (HBZ4.out.alloc _).keeps k5 id
        have HK5 := Lib.hid hk
        have HBX5 := Lib.hid bx
        have HBZ5 := Lib.hid bz
        have hz5 := bz.lt
        clear x0 x1 x2 z0 z1 z2
        obtain ⟨x0, x1, x2⟩ := bx.all3
        obtain ⟨z0, z1, z2⟩ := bz.all3
        clear hk bx bz
        clear k5
        go_wp2_with fail
        try simp only [Exit.inBlock, Exit.then]
        refine ret_cell_tmp rfl (w.heap.size + 1) 27 _ _ rfl ((HBZ5.out.far (by simp) _).set3 _ _ _) Tryz.underlying27 rfl (by kernel_rfl) rfl ?_
        exact ⟨_, rfl, own_doc HO5.out (((Keeps.refl _ _).setCell (fun _ => by simp; omega) _).old3 (by first | omega | (simp; omega)) _ _ _), (HK5.out.setNew (Nat.le_refl _) _).set3 (by omega) _ _ _⟩
      | none =>
        have he : (⟨#[]⟩ : ByteArray) ++ b = b := by apply ba_ext; simp
        have hsync : appendP most bad l nm b = (0, b', putG SFile.name ⟨nm, ⟨#[]⟩ ++ b, 0⟩ l) := by
          unfold appendP
          rw [he]
          rw [if_neg (by rw [← hc, h0]; simp), if_neg (by rw [← hT]; exact hfull), ← hb', hg]
        rw [hsync]
        subst h0
        clear he hT
        have hw : IntKind.i64.wrap ((T : Int) + b.size) = T + b.size := IntWalk.i64_in _ (by omega)
        have hcmp : decide (most < IntKind.i64.wrap ((T : Int) + b.size)) = false := by rw [hw]; exact decide_eq_false hfull
        have hcmp2 : decide (most < (T : Int) + b.size) = false := decide_eq_false hfull
        clear hsync hc hb'
        unfold docS at *
        go_enter Tryz.func30, Tryz.ntmps30
        go_wp2_with fail
        refine (HB.out _).mono ?_
        rintro e w2 ⟨rfl, k1⟩
        have k2 : Keeps (fun _ => False) w w2 := Keeps.trans (by (repeat (first | (with_reducible assumption) | (with_reducible exact Keeps.refl _ _) | refine Keeps.drew ?_ | refine Keeps.drewN ?_ _ | refine Keeps.setCell ?_ (by simp) _ | refine Keeps.setRow ?_ (by simp) _ | refine Keeps.alloc ?_ _))) k1
        have bx := ((Blk.new w 27 #[.slice a0 n0 c0, .int .i64 most, .int .i64 bad]).alloc (.cells #[.slice none 0 0, .int .i64 0, .int .i64 0] 27)).keeps k1 id
        have bz := (Blk.new2 w (.cells #[.slice a0 n0 c0, .int .i64 most, .int .i64 bad] 27) 27 #[.slice none 0 0, .int .i64 0, .int .i64 0]).keeps k1 id
        have HK2 := Lib.hid k2
        have HBX := Lib.hid bx
        have HBZ := Lib.hid bz
        obtain ⟨x0, x1, x2⟩ := bx.all3
        obtain ⟨z0, z1, z2⟩ := bz.all3
        clear k1 k2 bx bz
        go_wp2_with fail
        obtain ⟨W, hW⟩ : ∃ W, W = ((w2.setCell ⟨w.heap.size, 0, none⟩ (.slice a0 n0 c0)).setCell ⟨w.heap.size, 1, none⟩ (.int .i64 most)).setCell ⟨w.heap.size, 2, none⟩ (.int .i64 b') := ⟨_, rfl⟩
        rw [← hW]
        have hkW : Keeps (fun _ => False) w W := by rw [hW]; exact HK2.out.set3 (Nat.le_refl _) _ _ _
        have bxW : Blk W w.heap.size 27 #[.slice a0 n0 c0, .int .i64 most, .int .i64 b'] := by rw [hW]; exact HBX.out.set3 _ _ _
        have bzW : Blk W (w.heap.size + 1) 27 #[.slice none 0 0, .int .i64 0, .int .i64 0] := by rw [hW]; exact HBZ.out.far3 (by omega) _ _ _
        have hnW := hkW.size
        have hlW := bzW.lt
        clear x0 x1 x2 z0 z1 z2
        obtain ⟨x0, x1, x2⟩ := bxW.cells3
        obtain ⟨i0, i1, i2⟩ := (bxW.alloc (.cells #[.slice a0 n0 c0, .int .i64 most, .int .i64 b'] 27)).cells3
        have HKW := Lib.hid hkW
        have HBXW := Lib.hid bxW
        have HBZW := Lib.hid bzW
        clear hW hkW bxW bzW HK2 HBX HBZ
        clear i0 i1 i2
        go_region_held3 (fun w' => (w'.cell? ⟨w.heap.size, 0, none⟩ = some (.slice a0 n0 c0) ∧ w'.cell? ⟨w.heap.size, 1, none⟩ = some (.int .i64 most) ∧ w'.cell? ⟨w.heap.size, 2, none⟩ = some (.int .i64 b')) ∧ Keeps (fun _ => False) W w')
          ((first | exact ⟨⟨x0, x1, x2⟩, by (repeat (first | (with_reducible assumption) | (with_reducible exact Keeps.refl _ _) | refine Keeps.drew ?_ | refine Keeps.drewN ?_ _ | refine Keeps.setCell ?_ (by simp) _ | refine Keeps.setRow ?_ (by simp) _ | refine Keeps.alloc ?_ _))⟩ | exact ⟨⟨d0, d1, d2⟩, kk⟩))
          ((go_at_call 80; rename_i hh _ _; refine (rtotal_any _ (.slice a0 n0 c0) most b' l (H.out.keeps (HKW.out.trans hh.2)) hl HDT.out).mono ?_; rintro e w3 ⟨rfl, hw3⟩; rw [← HT.out]; have kk : Keeps (fun _ => False) W w3 := hh.2.trans (hw3 ▸ (Keeps.refl _ _).alloc _); obtain ⟨d0, d1, d2⟩ := (HBXW.out.keeps kk id).cells3; clear hw3))
        have HK3 := Lib.hid kk
        clear x0 x1 x2 d0 d1 d2 kk
        obtain ⟨x0, x1, x2⟩ := (HBXW.out.keeps HK3.out id).all3
        obtain ⟨z0, z1, z2⟩ := (HBZW.out.keeps HK3.out id).all3
        go_wp2_with fail
        refine (rget_any _ (.slice a0 n0 c0) most b' l nm (H.out.keeps (HKW.out.trans HK3.out)) hl).mono ?_
        rintro e w4 ⟨⟨f', ok, rfl, hf⟩, k4⟩
        have HK4 := Lib.hid ((HKW.out.trans HK3.out).trans k4)
        have HBX4 := Lib.hid ((HBXW.out.keeps HK3.out id).keeps k4 id)
        have HBZ4 := Lib.hid ((HBZW.out.keeps HK3.out id).keeps k4 id)
        have hz4 := HBZ4.out.lt
        clear x0 x1 x2 z0 z1 z2
        obtain ⟨x0, x1, x2⟩ := HBX4.out.all3
        obtain ⟨z0, z1, z2⟩ := HBZ4.out.all3
        clear k4
        have hff : ok = false ∧ f' = zeroFile := by
          rcases hf with ⟨e1, e2⟩ | ⟨e1, e3, e2⟩
          · rw [hg] at e2; cases e2
          · exact ⟨e1, e3⟩
        obtain ⟨rfl, rfl⟩ := hff
        clear hf hg
        simp only [docF, zeroFile, Int.cast_ofNat_Int]
        obtain ⟨y0, y1, y2⟩ := (HBX4.out.alloc (.cells #[.string ⟨#[]⟩, .string ⟨#[]⟩, .int .i64 0] 99)).all3
        obtain ⟨t0, t1, t2⟩ := (HBZ4.out.alloc (.cells #[.string ⟨#[]⟩, .string ⟨#[]⟩, .int .i64 0] 99)).all3
        go_wp2_with fail
        clear y0 y1 y2 t0 t1 t2
        have hw5 := rwith_any (w4.alloc (.cells #[.string ⟨#[]⟩, .string ⟨#[]⟩, .int .i64 0] 99)) (.slice a0 n0 c0) l ⟨nm, ⟨#[]⟩ ++ b, 0⟩ (H.out.keeps (HK4.out.alloc _)) hl
        simp only [docF, Int.cast_ofNat_Int] at hw5
        refine hw5.mono ?_
        clear hw5
        rintro e w5 ⟨v5, rfl, O5, k5⟩
        obtain ⟨a5, m5, c5, hv5⟩ := OwnS.sl3 O5
        subst hv5
        have HO5 := Lib.hid O5
        clear O5
        have hk : Keeps (fun _ => False) w w5 := (HK4.out.alloc _).trans k5
        have bx := (HBX4.out.alloc _).keeps k5 id
        have bz := (HBZ4.out.alloc _).keeps k5 id
        have HK5 := Lib.hid hk
        have HBX5 := Lib.hid bx
        have HBZ5 := Lib.hid bz
        have hz5 := bz.lt
        clear x0 x1 x2 z0 z1 z2
        obtain ⟨x0, x1, x2⟩ := bx.all3
        obtain ⟨z0, z1, z2⟩ := bz.all3
        clear hk bx bz
        clear k5
        go_wp2_with fail
        try simp only [Exit.inBlock, Exit.then]
        refine ret_cell_tmp rfl (w.heap.size + 1) 27 _ _ rfl ((HBZ5.out.far (by simp) _).set3 _ _ _) Tryz.underlying27 rfl (by kernel_rfl) rfl ?_
        exact ⟨_, rfl, own_doc HO5.out (((Keeps.refl _ _).setCell (fun _ => by simp; omega) _).old3 (by first | omega | (simp; omega)) _ _ _), (HK5.out.setNew (Nat.le_refl _) _).set3 (by omega) _ _ _⟩
  · have hsync : appendP most bad l nm b = (c, b', l) := by
      unfold appendP
      rw [if_pos (by rw [← hc]; exact h0), ← hc, ← hb']
    rw [hsync]
    clear hsync hc hb'
    unfold docS at *
    go_enter Tryz.func30, Tryz.ntmps30
    go_wp2_with fail
    refine (HB.out _).mono ?_
    rintro e w2 ⟨rfl, k1⟩
    have k2 : Keeps (fun _ => False) w w2 := Keeps.trans (by (repeat (first | (with_reducible assumption) | (with_reducible exact Keeps.refl _ _) | refine Keeps.drew ?_ | refine Keeps.drewN ?_ _ | refine Keeps.setCell ?_ (by simp) _ | refine Keeps.setRow ?_ (by simp) _ | refine Keeps.alloc ?_ _))) k1
    have bx := ((Blk.new w 27 #[.slice a0 n0 c0, .int .i64 most, .int .i64 bad]).alloc (.cells #[.slice none 0 0, .int .i64 0, .int .i64 0] 27)).keeps k1 id
    have bz := (Blk.new2 w (.cells #[.slice a0 n0 c0, .int .i64 most, .int .i64 bad] 27) 27 #[.slice none 0 0, .int .i64 0, .int .i64 0]).keeps k1 id
    have HK2 := Lib.hid k2
    have HBX := Lib.hid bx
    have HBZ := Lib.hid bz
    obtain ⟨x0, x1, x2⟩ := bx.all3
    obtain ⟨z0, z1, z2⟩ := bz.all3
    clear k1 k2 bx bz
    go_wp2_with fail
    try simp only [Exit.inBlock, Exit.then]
    refine ret_cell_tmp rfl (w.heap.size + 1) 27 _ _ rfl ((HBZ.out.far3 (by omega) _ _ _).set3 _ _ _) Tryz.underlying27 rfl (by kernel_rfl) rfl ?_
    exact ⟨_, rfl, H.out.keeps ((HK2.out.set3 (Nat.le_refl _) _ _ _).set3 (by omega) _ _ _), (HK2.out.set3 (Nat.le_refl _) _ _ _).set3 (by omega) _ _ _⟩
end Go.Proofs.YtdbnalocmjkncaaGreatDoor
