/-
  console: the steps of New.
-/
import Derived.Test.YtkmpdobojgiegaaGreatDoorQConsD
namespace Go.Proofs.YtkmpdobojgiegaaGreatDoor
open Go.RowKit

/-- two blocks are written, in either order -/
theorem Blk.two {w : World} {g e : Nat} {t t' : TypeId} {cs ds : Array Value} (h : Blk w g t cs) (h' : Blk w e t' ds) (hne : t ≠ t') (i j : Nat) (u v : Value) :
    (Blk ((w.setCell ⟨g, i, none⟩ u).setCell ⟨e, j, none⟩ v) g t (cs.setIfInBounds i u) ∧ Blk ((w.setCell ⟨g, i, none⟩ u).setCell ⟨e, j, none⟩ v) e t' (ds.setIfInBounds j v) ∧ Keeps (fun k => k = g ∨ k = e) w ((w.setCell ⟨g, i, none⟩ u).setCell ⟨e, j, none⟩ v)) ∧
    (Blk ((w.setCell ⟨e, j, none⟩ v).setCell ⟨g, i, none⟩ u) g t (cs.setIfInBounds i u) ∧ Blk ((w.setCell ⟨e, j, none⟩ v).setCell ⟨g, i, none⟩ u) e t' (ds.setIfInBounds j v) ∧ Keeps (fun k => k = g ∨ k = e) w ((w.setCell ⟨e, j, none⟩ v).setCell ⟨g, i, none⟩ u)) := by
  have hn : g ≠ e := Blk.ne_ h h' hne
  refine ⟨⟨(h.set_ i u).far (by exact hn) v, (h'.far (by exact hn.symm) u).set_ j v, ?_⟩, ⟨(h.far (by exact hn) v).set_ i u, (h'.set_ j v).far (by exact hn.symm) u, ?_⟩⟩
  · exact ((Keeps.refl (fun k => k = g ∨ k = e) w).setCell (p := ⟨g, i, none⟩) (fun _ => .inl rfl) u).setCell (p := ⟨e, j, none⟩) (fun _ => .inr rfl) v
  · exact ((Keeps.refl (fun k => k = g ∨ k = e) w).setCell (p := ⟨e, j, none⟩) (fun _ => .inr rfl) v).setCell (p := ⟨g, i, none⟩) (fun _ => .inl rfl) u
/-- a console that is being made: its line, who is there, its past, its log -/
def makeC (c : Con) (lv sv pv jv : Value) : Array Value :=
  #[lv, .string c.name, .int .i64 c.kind, .int .i64 c.lines, .int .i64 c.bytes, .int .i64 c.gens, .int .i64 c.size, .int .i64 c.base, .int .i64 c.cap, .int .i64 c.jitter, .string c.init, sv, pv, jv]
/-- what New's steps share: where the console lies, and how it went so far -/
structure Mk (w : World) (xb x8 e9 : Nat) (c : Con) (lv sv pv jv : Value) (e : Int) : Prop where
  x : Blk w x8 30 #[.pointer (some ⟨xb, 0, none⟩)]
  e : Blk w e9 31 #[.int .i64 e]
  t : Blk w xb 60 (makeC c lv sv pv jv)
section
variable {w w' : World} {xb x8 e9 : Nat} {c : Con} {lv sv pv jv : Value} {e0 : Int}
theorem Mk.keeps {S : Nat → Prop} (h : Mk w xb x8 e9 c lv sv pv jv e0) (k : Keeps S w w') (h1 : ¬ S xb) (h2 : ¬ S x8) (h3 : ¬ S e9) : Mk w' xb x8 e9 c lv sv pv jv e0 := ⟨h.x.keeps k h2, h.e.keeps k h3, h.t.keeps k h1⟩
theorem Mk.cells (h : Mk w xb x8 e9 c lv sv pv jv e0) : (w.cell? ⟨x8, 0, none⟩ = some (.pointer (some ⟨xb, 0, none⟩)) ∧ w.cell? ⟨e9, 0, none⟩ = some (.int .i64 e0) ∧ w.frozen? ⟨e9, 0, none⟩ = false) ∧ (w.cell? ⟨xb, 0, none⟩ = some lv ∧ w.frozen? ⟨xb, 0, none⟩ = false) ∧ (w.cell? ⟨xb, 11, none⟩ = some sv ∧ w.frozen? ⟨xb, 11, none⟩ = false) ∧ (w.cell? ⟨xb, 12, none⟩ = some pv ∧ w.frozen? ⟨xb, 12, none⟩ = false) ∧ (w.cell? ⟨xb, 13, none⟩ = some jv ∧ w.frozen? ⟨xb, 13, none⟩ = false) :=
  ⟨⟨h.x.cell 0, h.e.cell 0, h.e.frozen 0⟩, ⟨h.t.cell 0, h.t.frozen 0⟩, ⟨h.t.cell 11, h.t.frozen 11⟩, ⟨h.t.cell 12, h.t.frozen 12⟩, ⟨h.t.cell 13, h.t.frozen 13⟩⟩
theorem Mk.put (h : Mk w xb x8 e9 c lv sv pv jv e0) (i : Nat) (u : Value) (e' : Int) {lv' sv' pv' jv' : Value} (hset : (makeC c lv sv pv jv).setIfInBounds i u = makeC c lv' sv' pv' jv') :
    (Mk ((w.setCell ⟨xb, i, none⟩ u).setCell ⟨e9, 0, none⟩ (.int .i64 e')) xb x8 e9 c lv' sv' pv' jv' e' ∧ Keeps (fun k => k = xb ∨ k = e9) w ((w.setCell ⟨xb, i, none⟩ u).setCell ⟨e9, 0, none⟩ (.int .i64 e'))) ∧
    (Mk ((w.setCell ⟨e9, 0, none⟩ (.int .i64 e')).setCell ⟨xb, i, none⟩ u) xb x8 e9 c lv' sv' pv' jv' e' ∧ Keeps (fun k => k = xb ∨ k = e9) w ((w.setCell ⟨e9, 0, none⟩ (.int .i64 e')).setCell ⟨xb, i, none⟩ u)) := by
  obtain ⟨⟨a1, a2, a3⟩, b1, b2, b3⟩ := Blk.two h.t h.e (by decide) i 0 u (.int .i64 e')
  have n1 : x8 ≠ xb := Blk.ne_ h.x h.t (by decide)
  have n2 : x8 ≠ e9 := Blk.ne_ h.x h.e (by decide)
  rw [hset] at a1 b1
  have hx : ¬ (x8 = xb ∨ x8 = e9) := fun e => e.elim n1 n2
  exact ⟨⟨⟨h.x.keeps a3 hx, a2, a1⟩, a3⟩, ⟨⟨h.x.keeps b3 hx, b2, b1⟩, b3⟩⟩
set_option maxRecDepth 100000 in
theorem cnew4 (h : Mk w xb x8 e9 c lv sv pv jv e0) : Calls Tryz.prog 46 #[.pointer (some ⟨x8, 0, none⟩), .pointer (some ⟨e9, 0, none⟩)] w fun e w' =>
    e = .returned (.tuple #[]) ∧ (∃ p g b, Mk w' xb x8 e9 c lv sv (.pointer (some ⟨p, 0, none⟩)) jv 0 ∧ IsPast w' p g b 32768 [] ∧ w.heap.size ≤ p ∧ w.heap.size ≤ g ∧ w.heap.size ≤ b) ∧ Keeps (fun k => k = xb ∨ k = e9) w w' := by
  have H := Lib.hid h
  have HP := Lib.hid (fun W => pnew_ok W 32768 (by decide) (by decide))
  obtain ⟨⟨c0, -, -⟩, -, -, -, -⟩ := h.cells
  clear h
  go_enter Tryz.func46, Tryz.ntmps46
  go_wp2_with fail
  go_region_with (go_at_call 47; refine (HP.out _).mono ?_; rintro e w3 ⟨p, g, b, rfl, hp, hg, hb, k3, hP⟩; have hpb : w.heap.size ≤ p ∧ w.heap.size ≤ g ∧ w.heap.size ≤ b := ⟨hp, hg, hb⟩; have k3 : Keeps (fun _ => False) w w3 := (by first | exact k3 | exact k3.from_drew); have hM := H.out.keeps k3 (fun h => h) (fun h => h) (fun h => h); obtain ⟨⟨d0, d1, d2⟩, -, -, ⟨d3, d4⟩, -⟩ := hM.cells; have HM := Lib.hid hM; have HPP := Lib.hid hP; have HB := Lib.hid hpb; have HK := Lib.hid k3; clear hM hP hp hg hb k3 hpb)
  all_goals
    refine bodyPost_end (results_none rfl _ _ _) rfl ?_
    have hx : ∀ {W : World}, Mk W xb x8 e9 c lv sv (.pointer (some ⟨p, 0, none⟩)) jv 0 → Keeps (fun k => k = xb ∨ k = e9) w3 W → (∃ p g b, Mk W xb x8 e9 c lv sv (.pointer (some ⟨p, 0, none⟩)) jv 0 ∧ IsPast W p g b 32768 [] ∧ w.heap.size ≤ p ∧ w.heap.size ≤ g ∧ w.heap.size ≤ b) ∧ Keeps (fun k => k = xb ∨ k = e9) w W := fun {W} hm hk => by
      obtain ⟨b1, b2, b3⟩ := HB.out
      have l1 := H.out.t.lt
      have l2 := H.out.e.lt
      exact ⟨⟨p, g, b, hm, HPP.out.keeps hk (by omega) (by omega) (by omega), b1, b2, b3⟩, (HK.out.none_).trans hk⟩
    have h2 := HM.out.put 12 (.pointer (some ⟨p, 0, none⟩)) 0 (lv' := lv) (sv' := sv) (pv' := .pointer (some ⟨p, 0, none⟩)) (jv' := jv) rfl
    exact ⟨rfl, by first | exact hx h2.1.1 h2.1.2 | exact hx h2.2.1 h2.2.2⟩
set_option maxRecDepth 100000 in
theorem cnew1 (h : Mk w xb x8 e9 c lv sv pv jv e0) (cb : Nat) (hcb : Blk w cb 23 (conR c).toArray) (hi : c.init.size ≤ 1073741824) : Calls Tryz.prog 40 #[.pointer (some ⟨cb, 0, none⟩), .pointer (some ⟨x8, 0, none⟩), .pointer (some ⟨e9, 0, none⟩)] w fun e w' =>
    e = .returned (.tuple #[]) ∧ ((lineC0 c = 0 ∧ ∃ lb, Mk w' xb x8 e9 c (.pointer (some ⟨lb, 0, none⟩)) sv pv jv 0 ∧ LineAt w' (Ext (fun _ => False) w w') lb (lnOf c)) ∨ (lineC0 c ≠ 0 ∧ Mk w' xb x8 e9 c (.pointer none) sv pv jv (lineC0 c))) ∧ Keeps (fun k => k = xb ∨ k = e9) w w' := by
  have H := Lib.hid h
  have hP : ∀ W, Calls Tryz.prog 41 #[conV c] W fun e w' => (∃ o, e = .returned (.tuple #[.pointer o, .int .i64 (lineC0 c)]) ∧ ((lineC0 c = 0 ∧ ∃ lb, o = some ⟨lb, 0, none⟩ ∧ LineAt w' (Ext (fun _ => False) W w') lb (lnOf c)) ∨ (lineC0 c ≠ 0 ∧ o = none))) ∧ Keeps (fun _ => False) W w' := fun W => (lnew_any W c hi).mono fun e w' ⟨hO, k⟩ => by
    rcases hO with ⟨h0, lb, he, hl⟩ | ⟨h0, he⟩
    · exact ⟨⟨_, by rw [h0]; exact he, .inl ⟨h0, lb, rfl, hl⟩⟩, k⟩
    · exact ⟨⟨_, he, .inr ⟨h0, rfl⟩⟩, k⟩
  have HP := Lib.hid hP
  obtain ⟨⟨c0, -, -⟩, -, -, -, -⟩ := h.cells
  have hne : ¬ xb = e9 := Blk.ne_ h.t h.e (by decide)
  have hne2 : ¬ e9 = xb := fun e => hne e.symm
  clear hP
  obtain ⟨L, hL⟩ : ∃ L, L = lineC0 c := ⟨_, rfl⟩
  rw [← hL] at HP ⊢
  obtain ⟨m, hm⟩ : ∃ m, m = lnOf c := ⟨_, rfl⟩
  rw [← hm] at HP ⊢
  unfold conV conR at HP
  have y0 := hcb.cell 0
  have y1 := hcb.cell 1
  have y2 := hcb.cell 2
  have y3 := hcb.cell 3
  have y4 := hcb.cell 4
  have y5 := hcb.cell 5
  have y6 := hcb.cell 6
  have y7 := hcb.cell 7
  have y8 := hcb.cell 8
  have y9 := hcb.cell 9
  unfold conR at y0 y1 y2 y3 y4 y5 y6 y7 y8 y9
  simp only [List.getElem?_toArray, List.getElem?_cons_zero, List.getElem?_cons_succ] at y0 y1 y2 y3 y4 y5 y6 y7 y8 y9
  clear h hcb hi hL hm
  go_enter Tryz.func40, Tryz.ntmps40
  go_wp2_with fail
  go_region_with (go_at_call 41; refine (HP.out _).mono ?_; rintro e w3 ⟨⟨o, rfl, hO⟩, k3⟩; have k3 : Keeps (fun _ => False) w w3 := (by first | exact k3 | exact k3.from_drew); have hM := H.out.keeps k3 (fun h => h) (fun h => h) (fun h => h); obtain ⟨⟨d0, d1, d2⟩, ⟨d3, d4⟩, -, -, -⟩ := hM.cells; have HM := Lib.hid hM; have HK := Lib.hid k3; have HO := Lib.hid hO; clear hM k3 hO)
  all_goals
    refine bodyPost_end (results_none rfl _ _ _) rfl ?_
    have h2 := HM.out.put 0 (.pointer o) L (lv' := .pointer o) (sv' := sv) (pv' := pv) (jv' := jv) rfl
    have hx : ∀ {W : World}, Mk W xb x8 e9 c (.pointer o) sv pv jv L → Keeps (fun k => k = xb ∨ k = e9) w3 W → ((L = 0 ∧ ∃ lb, Mk W xb x8 e9 c (.pointer (some ⟨lb, 0, none⟩)) sv pv jv 0 ∧ LineAt W (Ext (fun _ => False) w W) lb m) ∨ (L ≠ 0 ∧ Mk W xb x8 e9 c (.pointer none) sv pv jv L)) ∧ Keeps (fun k => k = xb ∨ k = e9) w W := fun {W} hm hk => by
      refine ⟨?_, (HK.out.none_).trans hk⟩
      rcases HO.out with ⟨h0, lb, ho, hl⟩ | ⟨h0, ho⟩
      · rw [ho, h0] at hm
        have l1 := H.out.t.lt
        have l2 := H.out.e.lt
        have hsz := HK.out.size
        refine .inl ⟨h0, lb, hm, (hl.keeps hk (fun i hi e => ?_)).mono (fun i hi => hi.imp id (fun e => ⟨e.1, Nat.lt_of_lt_of_le e.2 hk.size⟩)) (fun i hi => hi.elim (fun e => e.elim) (·.2))⟩
        rcases hi with hi | hi
        · exact hi.elim
        · have h1 := hi.1
          have h1 : w.heap.size ≤ i := h1
          rcases e with rfl | rfl <;> omega
      · rw [ho] at hm
        exact .inr ⟨h0, hm⟩
    exact ⟨rfl, by first | exact hx h2.1.1 h2.1.2 | exact hx h2.2.1 h2.2.2⟩
end
end Go.Proofs.YtkmpdobojgiegaaGreatDoor
