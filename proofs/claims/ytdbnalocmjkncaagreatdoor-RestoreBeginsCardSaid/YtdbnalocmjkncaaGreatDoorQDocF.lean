/-
  The document's store (wheelhouseref11): Rename.
-/
import Derived.Test.YtdbnalocmjkncaaGreatDoorQGround2
namespace Go.Proofs.YtdbnalocmjkncaaGreatDoor
open Go.RowKit Go.Maps
set_option linter.unusedSimpArgs false


set_option maxRecDepth 100000 in
set_option maxHeartbeats 16000000 in
theorem rrename_any (w : World) (v : Value) (most : Int) (bad : Nat) (l : List SFile) (nm to : ByteArray) (h : DocL w v l) (hl : l.length ≤ 4294967296) (hn : nm.size ≤ 4611686018427387904) (hb : bad ≤ 9223372036854775807) (ht : to.size ≤ 4611686018427387904) :
    Calls Tryz.prog 46 #[docS v most bad, .string nm, .string to] w (DocAfter w most (renameP bad l nm to)) := by
  have hB := fun W => rbegin_any W v most bad nm h.slc hn hb
  obtain ⟨c, hc⟩ : ∃ c, c = (beginC bad nm).1 := ⟨_, rfl⟩
  obtain ⟨b', hb'⟩ : ∃ b', b' = (beginC bad nm).2 := ⟨_, rfl⟩
  rw [← hc, ← hb'] at hB
  have HB := Lib.hid hB
  have H := Lib.hid h
  obtain ⟨a0, n0, c0, rfl⟩ := h.slc
  have HN := Lib.hid (fun W => rnamed_any W to ht)
  clear h hB
  by_cases h0 : c = 0
  · by_cases hto : namedP to = true
    · rw [hto] at HN
      cases hg : getG SFile.name nm l with
      | some f =>
        have hsync : renameP bad l nm to = (0, b', putG SFile.name ⟨to, f.data, f.sure⟩ (delG SFile.name nm l)) := by
          unfold renameP
          rw [if_neg (by rw [← hc, h0]; simp), if_neg (by rw [hto]; simp), ← hb', hg]
        rw [hsync]
        subst h0
        clear hsync hc hb'
        unfold docS at *
        go_enter Tryz.func46, Tryz.ntmps46
        go_wp2_with fail
        refine (HB.out _).mono ?_
        rintro e w2 ⟨rfl, k1⟩
        have k2 : Keeps (fun _ => False) w w2 := Keeps.trans (by (repeat (first | (with_reducible assumption) | (with_reducible exact Keeps.refl _ _) | refine Keeps.drew ?_ | refine Keeps.drewN ?_ _ | refine Keeps.setCell ?_ (by simp) _ | refine Keeps.setRow ?_ (by simp) _ | refine Keeps.alloc ?_ _))) k1
        have bx := ((Blk.new w 27 #[.slice a0 n0 c0, .int .i64 most, .int .i64 bad]).alloc (.cells #[.slice none 0 0, .int .i64 0, .int .i64 0] 27)).keeps k1 id
        have bz := (Blk.new2 w (.cells #[.slice a0 n0 c0, .int .i64 most, .int .i64 bad] 27) 27 #[.slice none 0 0, .int .i64 0, .int .i64 0]).keeps k1 id
        have HK2 := Lib.hid k2
        have HBX := Lib.hid bx
        have HBZ := Lib.hid bz
        obtain ⟨x0, x1, x2⟩ := bx.all3
        obtain ⟨z0, z1, z2⟩ := bz.all3
        clear k1 k2 bx bz
        go_wp2_with (go_at_call 102; refine (HN.out _).mono ?_; rintro e w2' ⟨rfl, rfl⟩)
        refine (rget_any _ (.slice a0 n0 c0) most b' l nm (H.out.keeps (HK2.out.set3 (Nat.le_refl _) _ _ _)) hl).mono ?_
        rintro e w3 ⟨⟨f', ok, rfl, hf⟩, k3⟩
        have hk : Keeps (fun _ => False) w w3 := (HK2.out.set3 (Nat.le_refl _) _ _ _).trans k3
        have bx := (HBX.out.set3 _ _ _).keeps k3 id
        have bz := (HBZ.out.far3 (by omega) _ _ _).keeps k3 id
        have HK3 := Lib.hid hk
        have HBX3 := Lib.hid bx
        have HBZ3 := Lib.hid bz
        have hz3 := bz.lt
        clear x0 x1 x2 z0 z1 z2
        obtain ⟨x0, x1, x2⟩ := bx.all3
        obtain ⟨z0, z1, z2⟩ := bz.all3
        clear hk bx bz
        clear k3
        have hff : ok = true ∧ f' = f := by
          rcases hf with ⟨e1, e2⟩ | ⟨_, _, e2⟩
          · exact ⟨e1, Option.some.inj (e2.symm.trans hg)⟩
          · rw [hg] at e2; cases e2
        obtain ⟨rfl, rfl⟩ := hff
        clear hf hg
        unfold docF
        obtain ⟨y0, y1, y2⟩ := (HBX3.out.alloc (.cells #[.string f'.name, .string f'.data, .int .i64 (f'.sure : Nat)] 99)).all3
        obtain ⟨t0, t1, t2⟩ := (HBZ3.out.alloc (.cells #[.string f'.name, .string f'.data, .int .i64 (f'.sure : Nat)] 99)).all3
        have hdl : (delG SFile.name nm l).length ≤ 4294967296 := by
          have h1 : (delG SFile.name nm l).length ≤ l.length := List.length_filter_le _ _
          omega
        go_wp2_with fail
        clear y0 y1 y2 t0 t1 t2 x0 x1 x2 z0 z1 z2
        obtain ⟨W, hW⟩ : ∃ W, W = w3.alloc (.cells #[.string f'.name, .string f'.data, .int .i64 (f'.sure : Nat)] 99) := ⟨_, rfl⟩
        rw [← hW]
        have hkW : Keeps (fun _ => False) w W := by rw [hW]; exact HK3.out.alloc _
        have bxW : Blk W w.heap.size 27 #[.slice a0 n0 c0, .int .i64 most, .int .i64 b'] := by rw [hW]; exact HBX3.out.alloc _
        have bzW : Blk W (w.heap.size + 1) 27 #[.slice none 0 0, .int .i64 0, .int .i64 0] := by rw [hW]; exact HBZ3.out.alloc _
        have bfW : Blk W w3.heap.size 99 #[.string f'.name, .string f'.data, .int .i64 (f'.sure : Nat)] := by rw [hW]; exact Blk.new _ _ _
        obtain ⟨x0, _, _⟩ := bxW.cells3
        obtain ⟨_, q1, q2⟩ := bfW.cells3
        have HKW := Lib.hid hkW
        have HBXW := Lib.hid bxW
        have HBZW := Lib.hid bzW
        have HBFW := Lib.hid bfW
        clear hW hkW bxW bzW bfW HK3 HBX3 HBZ3 HK2 HBX HBZ
        go_region_with (first
          | (go_at_call 101; go_must (refine (rwithout_any _ (.slice a0 n0 c0) l nm (H.out.keeps (HKW.out.trans (by (repeat (first | (with_reducible assumption) | (with_reducible exact Keeps.refl _ _) | refine Keeps.drew ?_ | refine Keeps.drewN ?_ _ | refine Keeps.setCell ?_ (by simp) _ | refine Keeps.setRow ?_ (by simp) _ | refine Keeps.alloc ?_ _))))) hl).mono ?_; rintro e w5 ⟨v5, rfl, O5, k5⟩; obtain ⟨a5, m5, c5, hv5⟩ := OwnS.sl3 O5; subst hv5; have kk5 : Keeps (fun _ => False) W w5 := Keeps.trans (by (repeat (first | (with_reducible assumption) | (with_reducible exact Keeps.refl _ _) | refine Keeps.drew ?_ | refine Keeps.drewN ?_ _ | refine Keeps.setCell ?_ (by simp) _ | refine Keeps.setRow ?_ (by simp) _ | refine Keeps.alloc ?_ _))) k5; have HK5 := Lib.hid kk5; obtain ⟨_, p1, p2⟩ := (HBFW.out.keeps kk5 id).cells3; have HO5 := Lib.hid O5; clear O5 k5 kk5))
          | (go_at_call 81; go_must (refine (rwith_any _ (.slice a5 m5 c5) (delG SFile.name nm l) ⟨to, f'.data, f'.sure⟩ (DocL.keeps (OwnS.moreS HO5.out (Nat.zero_le _)) (by (repeat (first | (with_reducible assumption) | (with_reducible exact Keeps.refl _ _) | refine Keeps.drew ?_ | refine Keeps.drewN ?_ _ | refine Keeps.setCell ?_ (by simp) _ | refine Keeps.setRow ?_ (by simp) _ | refine Keeps.alloc ?_ _)))) hdl).mono ?_; rintro e w6 ⟨v6, rfl, O6, k6⟩; obtain ⟨a6, m6, c6, hv6⟩ := OwnS.sl3 O6; subst hv6; have kk6 : Keeps (fun _ => False) W w6 := HK5.out.trans (Keeps.trans (by (repeat (first | (with_reducible assumption) | (with_reducible exact Keeps.refl _ _) | refine Keeps.drew ?_ | refine Keeps.drewN ?_ _ | refine Keeps.setCell ?_ (by simp) _ | refine Keeps.setRow ?_ (by simp) _ | refine Keeps.alloc ?_ _))) k6); have HK6 := Lib.hid kk6; obtain ⟨⟨g0, _, _⟩, fx6, _, _⟩ := (HBXW.out.keeps kk6 id).all3; have hz6 := k6.size; have HO6 := Lib.hid O6; clear O6 k6 kk6)))
        all_goals (
          obtain ⟨_, g1, g2⟩ := (HBXW.out.keeps HK6.out id).cells3
          obtain ⟨⟨j0, j1, j2⟩, j3, j4, j5⟩ := (HBZW.out.keeps HK6.out id).all3
          have hzW := HBZW.out.lt
          have hz5 := HK5.out.size
          have hzl := HKW.out.size
          go_wp2_with fail
          try simp only [Exit.inBlock, Exit.then]
          refine ret_cell_tmp rfl (w.heap.size + 1) 27 _ _ rfl (((HBZW.out.keeps HK6.out id).far (by simp) _).set3 _ _ _) Tryz.underlying27 rfl (by kernel_rfl) rfl ?_
          exact ⟨_, rfl, own_doc HO6.out (((Keeps.refl _ _).setCell (fun _ => by first | omega | (simp; omega)) _).old3 (by first | omega | (simp; omega)) _ _ _), ((HKW.out.trans HK6.out).setNew (Nat.le_refl _) _).set3 (by omega) _ _ _⟩)
      | none =>
        have hsync : renameP bad l nm to = (7, b', l) := by
          unfold renameP
          rw [if_neg (by rw [← hc, h0]; simp), if_neg (by rw [hto]; simp), ← hb', hg]
        rw [hsync]
        subst h0
        clear hsync hc hb'
        unfold docS at *
        go_enter Tryz.func46, Tryz.ntmps46
        go_wp2_with fail
        refine (HB.out _).mono ?_
        rintro e w2 ⟨rfl, k1⟩
        have k2 : Keeps (fun _ => False) w w2 := Keeps.trans (by (repeat (first | (with_reducible assumption) | (with_reducible exact Keeps.refl _ _) | refine Keeps.drew ?_ | refine Keeps.drewN ?_ _ | refine Keeps.setCell ?_ (by simp) _ | refine Keeps.setRow ?_ (by simp) _ | refine Keeps.alloc ?_ _))) k1
        have bx := ((Blk.new w 27 #[.slice a0 n0 c0, .int .i64 most, .int .i64 bad]).alloc (.cells #[.slice none 0 0, .int .i64 0, .int .i64 0] 27)).keeps k1 id
        have bz := (Blk.new2 w (.cells #[.slice a0 n0 c0, .int .i64 most, .int .i64 bad] 27) 27 #[.slice none 0 0, .int .i64 0, .int .i64 0]).keeps k1 id
        have HK2 := Lib.hid k2
        have HBX := Lib.hid bx
        have HBZ := Lib.hid bz
        obtain ⟨x0, x1, x2⟩ := bx.all3
        obtain ⟨z0, z1, z2⟩ := bz.all3
        clear k1 k2 bx bz
        go_wp2_with (go_at_call 102; refine (HN.out _).mono ?_; rintro e w2' ⟨rfl, rfl⟩)
        refine (rget_any _ (.slice a0 n0 c0) most b' l nm (H.out.keeps (HK2.out.set3 (Nat.le_refl _) _ _ _)) hl).mono ?_
        rintro e w3 ⟨⟨f', ok, rfl, hf⟩, k3⟩
        have hk : Keeps (fun _ => False) w w3 := (HK2.out.set3 (Nat.le_refl _) _ _ _).trans k3
        have bx := (HBX.out.set3 _ _ _).keeps k3 id
        have bz := (HBZ.out.far3 (by omega) _ _ _).keeps k3 id
        have HK3 := Lib.hid hk
        have HBX3 := Lib.hid bx
        have HBZ3 := Lib.hid bz
        have hz3 := bz.lt
        clear x0 x1 x2 z0 z1 z2
        obtain ⟨x0, x1, x2⟩ := bx.all3
        obtain ⟨z0, z1, z2⟩ := bz.all3
        clear hk bx bz
        clear k3
        have hff : ok = false ∧ f' = zeroFile := by
          rcases hf with ⟨e1, e2⟩ | ⟨e1, e3, e2⟩
          · rw [hg] at e2; cases e2
          · exact ⟨e1, e3⟩
        obtain ⟨rfl, rfl⟩ := hff
        clear hf hg
        simp only [docF, zeroFile, Int.cast_ofNat_Int]
        obtain ⟨y0, y1, y2⟩ := (HBX3.out.alloc (.cells #[.string ⟨#[]⟩, .string ⟨#[]⟩, .int .i64 0] 99)).all3
        obtain ⟨t0, t1, t2⟩ := (HBZ3.out.alloc (.cells #[.string ⟨#[]⟩, .string ⟨#[]⟩, .int .i64 0] 99)).all3
        go_wp2_with fail
        try simp only [Exit.inBlock, Exit.then]
        refine ret_cell_tmp rfl (w.heap.size + 1) 27 _ _ rfl ((HBZ3.out.set3 _ _ _).alloc _) Tryz.underlying27 rfl (by kernel_rfl) rfl ?_
        exact ⟨_, rfl, H.out.keeps ((HK3.out.set3 (by omega) _ _ _).alloc _), (HK3.out.set3 (by omega) _ _ _).alloc _⟩
    · rw [show namedP to = false by simpa using hto] at HN
      have hsync : renameP bad l nm to = (1, b', l) := by
        unfold renameP
        rw [if_neg (by rw [← hc, h0]; simp), if_pos (by simpa using hto), ← hb']
      rw [hsync]
      subst h0
      clear hsync hc hb'
      unfold docS at *
      go_enter Tryz.func46, Tryz.ntmps46
      go_wp2_with fail
      refine (HB.out _).mono ?_
      rintro e w2 ⟨rfl, k1⟩
      have k2 : Keeps (fun _ => False) w w2 := Keeps.trans (by (repeat (first | (with_reducible assumption) | (with_reducible exact Keeps.refl _ _) | refine Keeps.drew ?_ | refine Keeps.drewN ?_ _ | refine Keeps.setCell ?_ (by simp) _ | refine Keeps.setRow ?_ (by simp) _ | refine Keeps.alloc ?_ _))) k1
      have bx := ((Blk.new w 27 #[.slice a0 n0 c0, .int .i64 most, .int .i64 bad]).alloc (.cells #[.slice none 0 0, .int .i64 0, .int .i64 0] 27)).keeps k1 id
      have bz := (Blk.new2 w (.cells #[.slice a0 n0 c0, .int .i64 most, .int .i64 bad] 27) 27 #[.slice none 0 0, .int .i64 0, .int .i64 0]).keeps k1 id
      have HK2 := Lib.hid k2
      have HBX := Lib.hid bx
      have HBZ := Lib.hid bz
      obtain ⟨x0, x1, x2⟩ := bx.all3
      obtain ⟨z0, z1, z2⟩ := bz.all3
      clear k1 k2 bx bz
      go_wp2_with (go_at_call 102; refine (HN.out _).mono ?_; rintro e w2' ⟨rfl, rfl⟩)
      try simp only [Exit.inBlock, Exit.then]
      refine ret_cell_tmp rfl (w.heap.size + 1) 27 _ _ rfl ((HBZ.out.far3 (by omega) _ _ _).set3 _ _ _) Tryz.underlying27 rfl (by kernel_rfl) rfl ?_
      exact ⟨_, rfl, H.out.keeps ((HK2.out.set3 (Nat.le_refl _) _ _ _).set3 (by omega) _ _ _), (HK2.out.set3 (Nat.le_refl _) _ _ _).set3 (by omega) _ _ _⟩
  · have hsync : renameP bad l nm to = (c, b', l) := by
      unfold renameP
      rw [if_pos (by rw [← hc]; exact h0), ← hc, ← hb']
    rw [hsync]
    clear hsync hc hb'
    unfold docS at *
    go_enter Tryz.func46, Tryz.ntmps46
    go_wp2_with fail
    refine (HB.out _).mono ?_
    rintro e w2 ⟨rfl, k1⟩
    have k2 : Keeps (fun _ => False) w w2 := Keeps.trans (by (repeat (first | (with_reducible assumption) | (with_reducible exact Keeps.refl _ _) | refine Keeps.drew ?_ | refine Keeps.drewN ?_ _ | refine Keeps.setCell ?_ (by simp) _ | refine Keeps.setRow ?_ (by simp) _ | refine Keeps.alloc ?_ _))) k1
    have bx := ((Blk.new w 27 #[.slice a0 n0 c0, .int .i64 most, .int .i64 bad]).alloc (.cells #[.slice none 0 0, .int .i64 0, .int .i64 0] 27)).keeps k1 id
    have bz := (Blk.new2 w (.cells #[.slice a0 n0 c0, .int .i64 most, .int .i64 bad] 27) 27 #[.slice none 0 0, .int .i64 0, .int .i64 0]).keeps k1 id
    have HK2 := Lib.hid k2
    have HBX := Lib.hid bx
    have HBZ := Lib.hid bz
    obtain ⟨x0, x1, x2⟩ := bx.all3
    obtain ⟨z0, z1, z2⟩ := bz.all3
    clear k1 k2 bx bz
    go_wp2_with fail
    try simp only [Exit.inBlock, Exit.then]
    refine ret_cell_tmp rfl (w.heap.size + 1) 27 _ _ rfl ((HBZ.out.far3 (by omega) _ _ _).set3 _ _ _) Tryz.underlying27 rfl (by kernel_rfl) rfl ?_
    exact ⟨_, rfl, H.out.keeps ((HK2.out.set3 (Nat.le_refl _) _ _ _).set3 (by omega) _ _ _), (HK2.out.set3 (Nat.le_refl _) _ _ _).set3 (by omega) _ _ _⟩
end Go.Proofs.YtdbnalocmjkncaaGreatDoor
