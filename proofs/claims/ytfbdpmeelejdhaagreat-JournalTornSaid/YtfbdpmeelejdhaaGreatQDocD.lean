/-
  The document's store (wheelhouseref11): Get, begin, Sync, Append, Rename, Remove.
-/
import Derived.Test.YtfbdpmeelejdhaaGreatQDocC
namespace Go.Proofs.YtfbdpmeelejdhaaGreat
open Go.RowKit Go.Maps
set_option linter.unusedSimpArgs false

theorem Blk.new2 (w : World) (o : Obj) (t : TypeId) (cs : Array Value) : Blk ((w.alloc o).alloc (.cells cs t)) (w.heap.size + 1) t cs := by
  have := Blk.new (w.alloc o) t cs
  simpa using this
theorem Keeps.setNew {S : Nat → Prop} {a b : World} (h : Keeps S a b) {g i : Nat} (hg : a.heap.size ≤ g) (u : Value) : Keeps S a (b.setCell ⟨g, i, none⟩ u) := h.setCell (fun hh => by have : g < a.heap.size := hh; omega) u
def zeroFile : SFile := ⟨⟨#[]⟩, ⟨#[]⟩, 0⟩
set_option maxRecDepth 100000 in
set_option maxHeartbeats 1000000 in
theorem rget_any (w : World) (v : Value) (most bad : Int) (l : List SFile) (nm : ByteArray) (h : DocL w v l) (hl : l.length ≤ 4294967296) :
    Calls Tryz.prog 60 #[docS v most bad, .string nm] w fun e w' => (∃ f ok, e = .returned (.tuple #[docF f, .bool ok]) ∧ ((ok = true ∧ getG SFile.name nm l = some f) ∨ (ok = false ∧ f = zeroFile ∧ getG SFile.name nm l = none))) ∧ Keeps (fun _ => False) w w' := by
  have hp : ∀ W, Keeps (fun _ => False) w W → _ := fun W kW => rplace_any W v most bad l nm (h.keeps kW) hl
  obtain ⟨a, c, rfl, hc⟩ := h.cells
  have HC := Lib.hid hc
  have HP := Lib.hid hp
  clear hc h hp
  unfold docS docF zeroFile at *
  go_enter Tryz.func60, Tryz.ntmps60
  go_wp2_with fail
  refine (HP.out _ (by (repeat (first | (with_reducible assumption) | (with_reducible exact Keeps.refl _ _) | refine Keeps.drew ?_ | refine Keeps.drewN ?_ _ | refine Keeps.setCell ?_ (by simp) _ | refine Keeps.setRow ?_ (by simp) _ | refine Keeps.alloc ?_ _)))).mono ?_
  rintro e w2 ⟨⟨p, rfl, hpp⟩, hw2⟩
  have k2 : Keeps (fun _ => False) w w2 := by rw [hw2]; (repeat (first | (with_reducible assumption) | (with_reducible exact Keeps.refl _ _) | refine Keeps.drew ?_ | refine Keeps.drewN ?_ _ | refine Keeps.setCell ?_ (by simp) _ | refine Keeps.setRow ?_ (by simp) _ | refine Keeps.alloc ?_ _))
  have bx : Blk w2 w.heap.size 54 #[.slice a l.length c, .int .i64 most, .int .i64 bad] := by rw [hw2]; exact ((Blk.new w _ _).alloc _).alloc _
  have bz : Blk w2 (w.heap.size + 1) 116 #[.string ⟨#[]⟩, .string ⟨#[]⟩, .int .i64 0] := by rw [hw2]; have := (Blk.new (w.alloc (.cells #[.slice a l.length c, .int .i64 most, .int .i64 bad] 54)) 116 #[.string ⟨#[]⟩, .string ⟨#[]⟩, .int .i64 0]).alloc (docO (.slice a l.length c) most bad); simpa using this
  have HK2 := Lib.hid k2
  have HBZ := Lib.hid bz
  obtain ⟨x0, x1, x2⟩ := bx.cells3
  obtain ⟨z0, z1, z2⟩ := bz.all3
  clear hw2 k2 bx bz
  rcases hpp with ⟨rfl, hg⟩ | ⟨i, f, rfl, hi, hf, hg⟩
  · have HG := Lib.hid hg
    clear hg
    go_wp2_with fail
    try simp only [Exit.inBlock, Exit.then]
    refine ret_cell_tmp rfl (w.heap.size + 1) 116 _ _ rfl (((HBZ.out.set_ 0 _).set_ 1 _).set_ 2 _) Tryz.underlying116 rfl (by kernel_rfl) rfl ?_
    exact ⟨⟨⟨⟨#[]⟩, ⟨#[]⟩, 0⟩, false, rfl, .inr ⟨rfl, rfl, HG.out⟩⟩, ((HK2.out.setNew (by omega) _).setNew (by omega) _).setNew (by omega) _⟩
  · obtain ⟨g, rfl, hgl, hcc⟩ := HC.out i f hf
    have HG := Lib.hid hg
    obtain ⟨c0, c1, c2⟩ := hcc _ HK2.out
    clear hg hcc hf
    go_wp2_with fail
    try simp only [Exit.inBlock, Exit.then]
    refine ret_cell_tmp rfl (w.heap.size + 1) 116 _ _ rfl (((HBZ.out.set_ 0 _).set_ 1 _).set_ 2 _) Tryz.underlying116 rfl (by kernel_rfl) rfl ?_
    exact ⟨⟨f, true, rfl, .inl ⟨rfl, HG.out⟩⟩, ((HK2.out.setNew (by omega) _).setNew (by omega) _).setNew (by omega) _⟩

set_option maxRecDepth 100000 in
set_option maxHeartbeats 1000000 in
theorem rbegin_any (w : World) (v : Value) (most : Int) (bad : Nat) (nm : ByteArray) (hv : ∃ a n c, v = .slice a n c) (hn : nm.size ≤ 4611686018427387904) (hb : bad ≤ 9223372036854775807) :
    Calls Tryz.prog 86 #[docS v most bad, .string nm] w fun e w' => e = .returned (.tuple #[docS v most (beginC bad nm).2, .int .i64 (beginC bad nm).1]) ∧ Keeps (fun _ => False) w w' := by
  obtain ⟨a, n, c, rfl⟩ := hv
  have HN := Lib.hid (fun W => rnamed_any W nm hn)
  unfold docS
  by_cases hnm : namedP nm = true
  · rw [hnm] at HN
    by_cases hb0 : 0 < bad
    · have hbc : beginC bad nm = (12, bad - 1) := by unfold beginC; rw [if_pos hnm, if_pos hb0]
      rw [hbc]
      clear hbc
      go_enter Tryz.func86, Tryz.ntmps86
      go_wp2_with (go_at_call 117; refine (HN.out _).mono ?_; rintro e w2 ⟨rfl, rfl⟩)
      try simp only [Exit.inBlock, Exit.then]
      refine ret_cell_tmp rfl (w.heap.size + 1) 54 _ _ rfl (Blk.new2 _ _ _ _) Tryz.underlying54 rfl (by kernel_rfl) rfl ?_
      have e : (bad : Int) - 1 = ((bad - 1 : Nat) : Int) := by omega
      rw [e]
      exact ⟨rfl, by (repeat (first | (with_reducible assumption) | (with_reducible exact Keeps.refl _ _) | refine Keeps.drew ?_ | refine Keeps.drewN ?_ _ | refine Keeps.setCell ?_ (by simp) _ | refine Keeps.setRow ?_ (by simp) _ | refine Keeps.alloc ?_ _))⟩
    · obtain rfl : bad = 0 := by omega
      have hbc : beginC 0 nm = (0, 0) := by unfold beginC; rw [if_pos hnm, if_neg (by omega)]
      rw [hbc]
      clear hbc
      go_enter Tryz.func86, Tryz.ntmps86
      go_wp2_with (go_at_call 117; refine (HN.out _).mono ?_; rintro e w2 ⟨rfl, rfl⟩)
      try simp only [Exit.inBlock, Exit.then]
      refine ret_cell_tmp rfl (w.heap.size + 1) 54 _ _ rfl (Blk.new2 _ _ _ _) Tryz.underlying54 rfl (by kernel_rfl) rfl ?_
      exact ⟨rfl, by (repeat (first | (with_reducible assumption) | (with_reducible exact Keeps.refl _ _) | refine Keeps.drew ?_ | refine Keeps.drewN ?_ _ | refine Keeps.setCell ?_ (by simp) _ | refine Keeps.setRow ?_ (by simp) _ | refine Keeps.alloc ?_ _))⟩
  · have hbc : beginC bad nm = (1, bad) := by unfold beginC; rw [if_neg hnm]
    rw [hbc]
    rw [show namedP nm = false by simpa using hnm] at HN
    clear hbc
    go_enter Tryz.func86, Tryz.ntmps86
    go_wp2_with (go_at_call 117; refine (HN.out _).mono ?_; rintro e w2 ⟨rfl, rfl⟩)
    try simp only [Exit.inBlock, Exit.then]
    refine ret_cell_tmp rfl (w.heap.size + 1) 54 _ _ rfl (Blk.new2 _ _ _ _) Tryz.underlying54 rfl (by kernel_rfl) rfl ?_
    exact ⟨rfl, by (repeat (first | (with_reducible assumption) | (with_reducible exact Keeps.refl _ _) | refine Keeps.drew ?_ | refine Keeps.drewN ?_ _ | refine Keeps.setCell ?_ (by simp) _ | refine Keeps.setRow ?_ (by simp) _ | refine Keeps.alloc ?_ _))⟩
end Go.Proofs.YtfbdpmeelejdhaaGreat
