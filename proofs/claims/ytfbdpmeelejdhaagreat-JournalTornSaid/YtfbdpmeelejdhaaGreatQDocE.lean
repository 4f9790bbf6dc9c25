/-
  The document's store (wheelhouseref11): Sync, Remove, Append, Rename.
-/
import Derived.Test.YtfbdpmeelejdhaaGreatQDocD
namespace Go.Proofs.YtfbdpmeelejdhaaGreat
open Go.RowKit Go.Maps
set_option linter.unusedSimpArgs false

/-- what the document's act leaves: the code, the calls that will fail, the files -/
def DocAfter (w : World) (most : Int) (x : Int × Nat × List SFile) (e : Ending) (w' : World) : Prop :=
  ∃ v, e = .returned (.tuple #[docS v most x.2.1, .int .i64 x.1]) ∧ DocL w' v x.2.2 ∧ Keeps (fun _ => False) w w'
theorem DocL.slc {w : World} {v : Value} {l : List SFile} (h : DocL w v l) : ∃ a n c, v = .slice a n c := by
  obtain ⟨a, c, hv, _⟩ := h.cells
  exact ⟨a, _, c, hv⟩
theorem Keeps.set3 {S : Nat → Prop} {a b : World} (h : Keeps S a b) {g : Nat} (hg : a.heap.size ≤ g) (x y z : Value) : Keeps S a (((b.setCell ⟨g, 0, none⟩ x).setCell ⟨g, 1, none⟩ y).setCell ⟨g, 2, none⟩ z) := ((h.setNew hg _).setNew hg _).setNew hg _
theorem Blk.set3 {w : World} {g : Nat} {t : TypeId} {a b c : Value} (h : Blk w g t #[a, b, c]) (x y z : Value) : Blk (((w.setCell ⟨g, 0, none⟩ x).setCell ⟨g, 1, none⟩ y).setCell ⟨g, 2, none⟩ z) g t #[x, y, z] := ((h.set_ 0 x).set_ 1 y).set_ 2 z
theorem Blk.far3 {w : World} {g k : Nat} {t : TypeId} {cs : Array Value} (h : Blk w k t cs) (hk : k ≠ g) (x y z : Value) : Blk (((w.setCell ⟨g, 0, none⟩ x).setCell ⟨g, 1, none⟩ y).setCell ⟨g, 2, none⟩ z) k t cs := ((h.far hk x).far hk y).far hk z
theorem own_doc {w5 w6 : World} {B : Nat} {v : Value} {l : List SFile} (O : OwnS docR 3 w5 B 116 v l) (k : Keeps (fun i => i < B) w5 w6) : DocL w6 v l := OwnS.moreS (OwnS.keeps O k (fun _ hi _ _ h => by omega)) (Nat.zero_le _)
theorem Keeps.old3 {B : Nat} {a b : World} (h : Keeps (fun i => i < B) a b) {g : Nat} (hg : g < B) (x y z : Value) : Keeps (fun i => i < B) a (((b.setCell ⟨g, 0, none⟩ x).setCell ⟨g, 1, none⟩ y).setCell ⟨g, 2, none⟩ z) := ((h.setCell (fun _ => hg) _).setCell (fun _ => hg) _).setCell (fun _ => hg) _
theorem rplace_k (w : World) (v : Value) (most bad : Int) (l : List SFile) (nm : ByteArray) (h : DocL w v l) (hl : l.length ≤ 4294967296) :
    Calls Tryz.prog 91 #[docS v most bad, .string nm] w fun e w' => (∃ p : Int, e = .returned (.int .i64 p) ∧ ((p = -1 ∧ getG SFile.name nm l = none) ∨ ∃ (i : Nat) (f : SFile), p = i ∧ i < l.length ∧ l[i]? = some f ∧ getG SFile.name nm l = some f)) ∧ Keeps (fun _ => False) w w' :=
  (rplace_any w v most bad l nm h hl).mono fun _ _ ⟨h, hw⟩ => ⟨h, hw ▸ (Keeps.refl _ _).alloc _⟩
theorem OwnS.sl3 {α : Type} {R : α → List Value} {size : Nat} {w : World} {B : Nat} {e : TypeId} {v : Value} {xs : List α} (h : OwnS R size w B e v xs) : ∃ a n c, v = .slice a n c := by obtain ⟨a, c, hv⟩ := h.sl; exact ⟨a, _, c, hv⟩

set_option maxRecDepth 100000 in
set_option maxHeartbeats 1000000 in
theorem rsync_any (w : World) (v : Value) (most : Int) (bad : Nat) (l : List SFile) (nm : ByteArray) (h : DocL w v l) (hl : l.length ≤ 4294967296) (hn : nm.size ≤ 4611686018427387904) (hb : bad ≤ 9223372036854775807) :
    Calls Tryz.prog 56 #[docS v most bad, .string nm] w (DocAfter w most (syncP bad l nm)) := by
  have hB := fun W => rbegin_any W v most bad nm h.slc hn hb
  obtain ⟨c, hc⟩ : ∃ c, c = (beginC bad nm).1 := ⟨_, rfl⟩
  obtain ⟨b', hb'⟩ : ∃ b', b' = (beginC bad nm).2 := ⟨_, rfl⟩
  rw [← hc, ← hb'] at hB
  have HB := Lib.hid hB
  have H := Lib.hid h
  obtain ⟨a0, n0, c0, rfl⟩ := h.slc
  clear h hB
  by_cases h0 : c = 0
  · cases hg : getG SFile.name nm l with
    | some f =>
      have hsync : syncP bad l nm = (0, b', putG SFile.name ⟨nm, f.data, f.data.size⟩ l) := by
        unfold syncP
        rw [if_neg (by rw [← hc, h0]; simp), ← hb', hg]
      rw [hsync]
      subst h0
      clear hsync hc hb'
      unfold docS at *
      go_enter Tryz.func56, Tryz.ntmps56
      go_wp2_with fail
      refine (HB.out _).mono ?_
      rintro e w2 ⟨rfl, k1⟩
      have k2 : Keeps (fun _ => False) w w2 := Keeps.trans (by (repeat (first | (with_reducible assumption) | (with_reducible exact Keeps.refl _ _) | refine Keeps.drew ?_ | refine Keeps.drewN ?_ _ | refine Keeps.setCell ?_ (by simp) _ | refine Keeps.setRow ?_ (by simp) _ | refine Keeps.alloc ?_ _))) k1
      have bx := ((Blk.new w 54 #[.slice a0 n0 c0, .int .i64 most, .int .i64 bad]).alloc (.cells #[.slice none 0 0, .int .i64 0, .int .i64 0] 54)).keeps k1 id
      have bz := (Blk.new2 w (.cells #[.slice a0 n0 c0, .int .i64 most, .int .i64 bad] 54) 54 #[.slice none 0 0, .int .i64 0, .int .i64 0]).keeps k1 id
      have HK2 := Lib.hid k2
      have HBX := Lib.hid bx
      have HBZ := Lib.hid bz
      obtain ⟨x0, x1, x2⟩ := bx.all3
      obtain ⟨z0, z1, z2⟩ := bz.all3
      clear k1 k2 bx bz
      go_wp2_with fail
      refine (rget_any _ (.slice a0 n0 c0) most b' l nm (H.out.keeps (HK2.out.set3 (Nat.le_refl _) _ _ _)) hl).mono ?_
      rintro e w3 ⟨⟨f', ok, rfl, hf⟩, k3⟩
      have hk : Keeps (fun _ => False) w w3 := (HK2.out.set3 (Nat.le_refl _) _ _ _).trans k3
      have bx := (HBX.out.set3 _ _ _).keeps k3 id
      have bz := (HBZ.out.far3 (by omega) _ _ _).keeps k3 id
      have HK3 := Lib.hid hk
      have HBX3 := Lib.hid bx
      have HBZ3 := Lib.hid bz
      have hz3 := bz.lt
      clear x0 x1 x2 z0 z1 z2
      obtain ⟨x0, x1, x2⟩ := bx.all3
      obtain ⟨z0, z1, z2⟩ := bz.all3
      clear hk bx bz
      clear k3
      have hff : ok = true ∧ f' = f := by
        rcases hf with ⟨e1, e2⟩ | ⟨_, _, e2⟩
        · exact ⟨e1, Option.some.inj (e2.symm.trans hg)⟩
        · rw [hg] at e2; cases e2
      obtain ⟨rfl, rfl⟩ := hff
      clear hf hg
      unfold docF
      obtain ⟨y0, y1, y2⟩ := (HBX3.out.alloc (.cells #[.string f'.name, .string f'.data, .int .i64 (f'.sure : Nat)] 116)).all3
      obtain ⟨t0, t1, t2⟩ := (HBZ3.out.alloc (.cells #[.string f'.name, .string f'.data, .int .i64 (f'.sure : Nat)] 116)).all3
      go_wp2_with fail
      clear y0 y1 y2 t0 t1 t2
      refine (rwith_any _ (.slice a0 n0 c0) l ⟨nm, f'.data, f'.data.size⟩ (H.out.keeps (HK3.out.alloc _)) hl).mono ?_
      rintro e w5 ⟨v5, rfl, O5, k5⟩
      obtain ⟨a5, m5, c5, hv5⟩ := OwnS.sl3 O5
      subst hv5
      have HO5 := Lib.hid O5
      clear O5
      have hk : Keeps (fun _ => False) w w5 := (HK3.out.alloc _).trans k5
      have bx := (HBX3.out.alloc _).keeps k5 id
      have bz := (HBZ3.out.alloc _).keeps k5 id
      have HK5 := Lib.hid hk
      have HBX5 := Lib.hid bx
      have HBZ5 := Lib.hid bz
      have hz5 := bz.lt
      clear x0 x1 x2 z0 z1 z2
      obtain ⟨x0, x1, x2⟩ := bx.all3
      obtain ⟨z0, z1, z2⟩ := bz.all3
      clear hk bx bz
      clear k5
      go_wp2_with fail
      try simp only [Exit.inBlock, Exit.then]
      refine ret_cell_tmp rfl (w.heap.size + 1) 54 _ _ rfl ((HBZ5.out.far (by simp) _).set3 _ _ _) Tryz.underlying54 rfl (by kernel_rfl) rfl ?_
      exact ⟨_, rfl, own_doc HO5.out (((Keeps.refl _ _).setCell (fun _ => by simp; omega) _).old3 (by first | omega | (simp; omega)) _ _ _), (HK5.out.setNew (Nat.le_refl _) _).set3 (by omega) _ _ _⟩
    | none =>
      have hsync : syncP bad l nm = (7, b', l) := by
        unfold syncP
        rw [if_neg (by rw [← hc, h0]; simp), ← hb', hg]
      rw [hsync]
      subst h0
      clear hsync hc hb'
      unfold docS at *
      go_enter Tryz.func56, Tryz.ntmps56
      go_wp2_with fail
      refine (HB.out _).mono ?_
      rintro e w2 ⟨rfl, k1⟩
      have k2 : Keeps (fun _ => False) w w2 := Keeps.trans (by (repeat (first | (with_reducible assumption) | (with_reducible exact Keeps.refl _ _) | refine Keeps.drew ?_ | refine Keeps.drewN ?_ _ | refine Keeps.setCell ?_ (by simp) _ | refine Keeps.setRow ?_ (by simp) _ | refine Keeps.alloc ?_ _))) k1
      have bx := ((Blk.new w 54 #[.slice a0 n0 c0, .int .i64 most, .int .i64 bad]).alloc (.cells #[.slice none 0 0, .int .i64 0, .int .i64 0] 54)).keeps k1 id
      have bz := (Blk.new2 w (.cells #[.slice a0 n0 c0, .int .i64 most, .int .i64 bad] 54) 54 #[.slice none 0 0, .int .i64 0, .int .i64 0]).keeps k1 id
      have HK2 := Lib.hid k2
      have HBX := Lib.hid bx
      have HBZ := Lib.hid bz
      obtain ⟨x0, x1, x2⟩ := bx.all3
      obtain ⟨z0, z1, z2⟩ := bz.all3
      clear k1 k2 bx bz
      go_wp2_with fail
      refine (rget_any _ (.slice a0 n0 c0) most b' l nm (H.out.keeps (HK2.out.set3 (Nat.le_refl _) _ _ _)) hl).mono ?_
      rintro e w3 ⟨⟨f', ok, rfl, hf⟩, k3⟩
      have hk : Keeps (fun _ => False) w w3 := (HK2.out.set3 (Nat.le_refl _) _ _ _).trans k3
      have bx := (HBX.out.set3 _ _ _).keeps k3 id
      have bz := (HBZ.out.far3 (by omega) _ _ _).keeps k3 id
      have HK3 := Lib.hid hk
      have HBX3 := Lib.hid bx
      have HBZ3 := Lib.hid bz
      have hz3 := bz.lt
      clear x0 x1 x2 z0 z1 z2
      obtain ⟨x0, x1, x2⟩ := bx.all3
      obtain ⟨z0, z1, z2⟩ := bz.all3
      clear hk bx bz
      clear k3
      have hff : ok = false ∧ f' = zeroFile := by
        rcases hf with ⟨e1, e2⟩ | ⟨e1, e3, e2⟩
        · rw [hg] at e2; cases e2
        · exact ⟨e1, e3⟩
      obtain ⟨rfl, rfl⟩ := hff
      clear hf hg
      simp only [docF, zeroFile, Int.cast_ofNat_Int]
      obtain ⟨y0, y1, y2⟩ := (HBX3.out.alloc (.cells #[.string ⟨#[]⟩, .string ⟨#[]⟩, .int .i64 0] 116)).all3
      obtain ⟨t0, t1, t2⟩ := (HBZ3.out.alloc (.cells #[.string ⟨#[]⟩, .string ⟨#[]⟩, .int .i64 0] 116)).all3
      go_wp2_with fail
      try simp only [Exit.inBlock, Exit.then]
      refine ret_cell_tmp rfl (w.heap.size + 1) 54 _ _ rfl ((HBZ3.out.set3 _ _ _).alloc _) Tryz.underlying54 rfl (by kernel_rfl) rfl ?_
      exact ⟨_, rfl, H.out.keeps ((HK3.out.set3 (by omega) _ _ _).alloc _), (HK3.out.set3 (by omega) _ _ _).alloc _⟩
  · have hsync : syncP bad l nm = (c, b', l) := by
      unfold syncP
      rw [if_pos (by rw [← hc]; exact h0), ← hc, ← hb']
    rw [hsync]
    clear hsync hc hb'
    unfold docS at *
    go_enter Tryz.func56, Tryz.ntmps56
    go_wp2_with fail
    refine (HB.out _).mono ?_
    rintro e w2 ⟨rfl, k1⟩
    have k2 : Keeps (fun _ => False) w w2 := Keeps.trans (by (repeat (first | (with_reducible assumption) | (with_reducible exact Keeps.refl _ _) | refine Keeps.drew ?_ | refine Keeps.drewN ?_ _ | refine Keeps.setCell ?_ (by simp) _ | refine Keeps.setRow ?_ (by simp) _ | refine Keeps.alloc ?_ _))) k1
    have bx := ((Blk.new w 54 #[.slice a0 n0 c0, .int .i64 most, .int .i64 bad]).alloc (.cells #[.slice none 0 0, .int .i64 0, .int .i64 0] 54)).keeps k1 id
    have bz := (Blk.new2 w (.cells #[.slice a0 n0 c0, .int .i64 most, .int .i64 bad] 54) 54 #[.slice none 0 0, .int .i64 0, .int .i64 0]).keeps k1 id
    have HK2 := Lib.hid k2
    have HBX := Lib.hid bx
    have HBZ := Lib.hid bz
    obtain ⟨x0, x1, x2⟩ := bx.all3
    obtain ⟨z0, z1, z2⟩ := bz.all3
    clear k1 k2 bx bz
    go_wp2_with fail
    try simp only [Exit.inBlock, Exit.then]
    refine ret_cell_tmp rfl (w.heap.size + 1) 54 _ _ rfl ((HBZ.out.far3 (by omega) _ _ _).set3 _ _ _) Tryz.underlying54 rfl (by kernel_rfl) rfl ?_
    exact ⟨_, rfl, H.out.keeps ((HK2.out.set3 (Nat.le_refl _) _ _ _).set3 (by omega) _ _ _), (HK2.out.set3 (Nat.le_refl _) _ _ _).set3 (by omega) _ _ _⟩

end Go.Proofs.YtfbdpmeelejdhaaGreat
