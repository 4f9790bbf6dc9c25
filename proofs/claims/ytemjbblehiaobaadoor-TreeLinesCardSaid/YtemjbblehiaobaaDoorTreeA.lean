/-
  tree: where a parser is: kind, line, take; stop.
-/
import Derived.Test.YtemjbblehiaobaaDoorLexD
import Derived.Test.YtemjbblehiaobaaDoorNd
import Derived.Test.YtemjbblehiaobaaDoorTreeP
import Derived.Deep.DeepCutAuto
import Derived.Deep.CutBlock
namespace Go.Proofs.YtemjbblehiaobaaDoor
open Go.RowKit

/-- a parser at g of the pieces l, of which 'at' are taken -/
structure IsP (w : World) (g U : Nat) (l : List Pc) (at_ : Nat) : Prop where
  blk : ∃ a c, Blk w g 44 #[.slice a l.length c, .int .i64 at_] ∧ SlAt pcR 3 w a l.length l ∧ InS (fun i => i ≠ g ∧ i < U) a l.length
  lt : g < U
  up : U ≤ w.heap.size
  le : at_ ≤ l.length
  len : l.length ≤ 1048576
section
variable {w w' : World} {g U : Nat} {l : List Pc} {at_ : Nat}
theorem IsP.same (h : IsP w g U l at_) (k : Keeps (fun _ => False) w w') : IsP w' g U l at_ := by
  obtain ⟨a, c, h1, h2, h3⟩ := h.blk
  exact ⟨⟨a, c, h1.keeps k id, h2.keeps k (fun _ _ => id), h3⟩, h.lt, Nat.le_trans h.up k.size, h.le, h.len⟩
theorem pc_at {w : World} {a : Option Addr} {n : Nat} {l : List Pc} (h : SlAt pcR 3 w a n l) {i : Nat} {x : Pc} (hx : l[i]? = some x) : ∃ b off, a = some ⟨b, off, none⟩ ∧ b < w.heap.size ∧ ∀ W, Keeps (fun j => j ≠ b) w W → W.cell? ⟨b, off + i * 3, none⟩ = some (.int .i64 x.kind) ∧ W.cell? ⟨b, off + i * 3 + 1, none⟩ = some (.string x.text) ∧ W.cell? ⟨b, off + i * 3 + 2, none⟩ = some (.int .i64 x.line) := by
  have hi : i < l.length := (List.getElem?_eq_some_iff.1 hx).1
  obtain ⟨b, off, ha, hb, hc⟩ := h.2 (by rw [← h.1]; omega)
  refine ⟨b, off, ha, hb, fun W k => ?_⟩
  have hh : ∀ j v, (pcR x)[j]? = some v → W.cell? ⟨b, off + i * 3 + j, none⟩ = some v := fun j v hj => (World.cell?_of_block (w := w) (k.block b hb (by simp))).trans (hc i x j v hx hj)
  exact ⟨hh 0 _ rfl, hh 1 _ rfl, hh 2 _ rfl⟩
theorem drop_pc {l : List Pc} {i : Nat} {x : Pc} (h : l[i]? = some x) : l.drop i = x :: l.drop (i + 1) := by
  have hi := (List.getElem?_eq_some_iff.1 h).1
  rw [← (List.getElem?_eq_some_iff.1 h).2, List.drop_eq_getElem_cons hi]
theorem Blk.cells2 {w : World} {g : Nat} {t : TypeId} {a b : Value} (h : Blk w g t #[a, b]) : w.cell? ⟨g, 0, none⟩ = some a ∧ w.cell? ⟨g, 1, none⟩ = some b := ⟨h.cell 0, h.cell 1⟩
set_option maxRecDepth 100000 in
theorem pkind_any (h : IsP w g U l at_) : Calls Tryd.prog 25 #[.pointer (some ⟨g, 0, none⟩)] w fun e w' => e = .returned (.int .i64 (kindP (l.drop at_))) ∧ Keeps (fun _ => False) w w' := by
  obtain ⟨a, c, hb, hs, -⟩ := h.blk
  obtain ⟨c0, c1⟩ := hb.cells2
  have hle := h.le
  have hln := h.len
  by_cases hlt : at_ < l.length
  · obtain ⟨x, hx⟩ : ∃ x, l[at_]? = some x := ⟨_, List.getElem?_eq_getElem hlt⟩
    obtain ⟨b, off, rfl, hbl, hc⟩ := pc_at hs hx
    obtain ⟨x0, -, -⟩ := hc w (Keeps.refl _ _)
    rw [drop_pc hx]
    unfold kindP
    simp only
    clear hx hc hb hs h
    go_enter Tryd.func25, Tryd.ntmps25
    go_wp2_with fail
    go_region
    go_wp2_with fail
    go_region
    go_wp2_with fail
    go_ret
    exact ⟨rfl, by (repeat (first | (with_reducible assumption) | (with_reducible exact Keeps.refl _ _) | refine Keeps.drew ?_ | refine Keeps.drewN ?_ _ | refine Keeps.setCell ?_ (by simp) _ | refine Keeps.setRow ?_ (by simp) _ | refine Keeps.alloc ?_ _))⟩
  · have h0 : l.drop at_ = [] := List.drop_eq_nil_of_le (by omega)
    rw [h0]
    unfold kindP
    simp only
    clear h hs hb h0
    go_enter Tryd.func25, Tryd.ntmps25
    go_wp2_with fail
    go_region
    go_wp2_with fail
    go_ret
    exact ⟨rfl, by (repeat (first | (with_reducible assumption) | (with_reducible exact Keeps.refl _ _) | refine Keeps.drew ?_ | refine Keeps.drewN ?_ _ | refine Keeps.setCell ?_ (by simp) _ | refine Keeps.setRow ?_ (by simp) _ | refine Keeps.alloc ?_ _))⟩
set_option maxRecDepth 100000 in
theorem pline_any (h : IsP w g U l at_) : Calls Tryd.prog 40 #[.pointer (some ⟨g, 0, none⟩)] w fun e w' => e = .returned (.int .i64 (lineP (lastP l) (l.drop at_))) ∧ Keeps (fun _ => False) w w' := by
  obtain ⟨a, c, hb, hs, -⟩ := h.blk
  obtain ⟨c0, c1⟩ := hb.cells2
  have hle := h.le
  have hln := h.len
  by_cases hlt : at_ < l.length
  · obtain ⟨x, hx⟩ : ∃ x, l[at_]? = some x := ⟨_, List.getElem?_eq_getElem hlt⟩
    obtain ⟨b, off, rfl, hbl, hc⟩ := pc_at hs hx
    obtain ⟨-, -, x2⟩ := hc w (Keeps.refl _ _)
    rw [drop_pc hx]
    unfold lineP
    simp only
    clear hx hc hb hs h
    go_enter Tryd.func40, Tryd.ntmps40
    go_wp2_with fail
    go_region
    go_wp2_with fail
    go_region
    go_wp2_with fail
    go_ret
    exact ⟨rfl, by (repeat (first | (with_reducible assumption) | (with_reducible exact Keeps.refl _ _) | refine Keeps.drew ?_ | refine Keeps.drewN ?_ _ | refine Keeps.setCell ?_ (by simp) _ | refine Keeps.setRow ?_ (by simp) _ | refine Keeps.alloc ?_ _))⟩
  · have h0 : l.drop at_ = [] := List.drop_eq_nil_of_le (by omega)
    rw [h0]
    unfold lineP
    simp only
    rcases Nat.eq_zero_or_pos l.length with h1 | h1
    · have hl0 : l = [] := List.eq_nil_of_length_eq_zero h1
      subst hl0
      have hla : lastP [] = 0 := rfl
      rw [hla]
      simp only [List.length_nil] at *
      clear h hs hb h0 hla
      go_enter Tryd.func40, Tryd.ntmps40
      go_wp2_with fail
      go_region
      go_wp2_with fail
      go_ret
      exact ⟨rfl, by (repeat (first | (with_reducible assumption) | (with_reducible exact Keeps.refl _ _) | refine Keeps.drew ?_ | refine Keeps.drewN ?_ _ | refine Keeps.setCell ?_ (by simp) _ | refine Keeps.setRow ?_ (by simp) _ | refine Keeps.alloc ?_ _))⟩
    · obtain ⟨x, hx⟩ : ∃ x, l[l.length - 1]? = some x := ⟨_, List.getElem?_eq_getElem (by omega)⟩
      have hla : lastP l = x.line := by unfold lastP; rw [List.getLast?_eq_getElem?, hx]
      rw [hla]
      obtain ⟨b, off, rfl, hbl, hc⟩ := pc_at hs hx
      obtain ⟨-, -, x2⟩ := hc w (Keeps.refl _ _)
      have hwn : ((l.length : Int) - 1).toNat = l.length - 1 := by omega
      clear hx hc hb hs h h0 hla
      go_enter Tryd.func40, Tryd.ntmps40
      go_wp2_with fail
      go_region
      go_wp2_with fail
      go_ret
      exact ⟨rfl, by (repeat (first | (with_reducible assumption) | (with_reducible exact Keeps.refl _ _) | refine Keeps.drew ?_ | refine Keeps.drewN ?_ _ | refine Keeps.setCell ?_ (by simp) _ | refine Keeps.setRow ?_ (by simp) _ | refine Keeps.alloc ?_ _))⟩
/-- a parser, taken one on -/
theorem IsP.step {w w' : World} (h : IsP w g U l at_) (hlt : at_ < l.length) {a : Option Addr} {c : Nat} (k : Keeps (fun i => i = g) w w') (hb : Blk w' g 44 #[.slice a l.length c, .int .i64 ((at_ : Int) + 1)]) (h0 : Blk w g 44 #[.slice a l.length c, .int .i64 at_]) : IsP w' g U l (at_ + 1) := by
  obtain ⟨a2, c2, h1, h2, h3⟩ := h.blk
  have he : #[Value.slice a l.length c, .int .i64 at_] = #[Value.slice a2 l.length c2, .int .i64 at_] := by
    unfold Blk at h0 h1
    rw [h0] at h1
    injection h1 with h1
    injection h1
  injection he with he
  injection he with he _
  injection he with e1 _ e3
  subst e1 e3
  refine ⟨⟨_, _, by have e : ((at_ + 1 : Nat) : Int) = (at_ : Int) + 1 := by omega
                    rw [e]; exact hb, h2.keepsS h3 k (fun i _ hi => hi.1), h3⟩, h.lt, Nat.le_trans h.up k.size, hlt, h.len⟩
set_option maxRecDepth 100000 in
theorem ptake_any (h : IsP w g U l at_) {x : Pc} (hx : l[at_]? = some x) : Calls Tryd.prog 41 #[.pointer (some ⟨g, 0, none⟩)] w fun e w' => e = .returned (.agg #[.int .i64 x.kind, .string x.text, .int .i64 x.line]) ∧ IsP w' g U l (at_ + 1) ∧ Keeps (fun i => i = g) w w' := by
  have H := Lib.hid h
  obtain ⟨a, c, hb, hs, hi⟩ := h.blk
  obtain ⟨c0, c1⟩ := hb.cells2
  have HB := Lib.hid hb
  have hlt : at_ < l.length := (List.getElem?_eq_some_iff.1 hx).1
  have hln := h.len
  have f0 := hb.frozen 0
  have f1 := hb.frozen 1
  obtain ⟨b, off, rfl, hbl, hc⟩ := pc_at hs hx
  obtain ⟨x0, x1, x2⟩ := hc w (Keeps.refl _ _)
  have hgl := hb.lt
  clear hx hc hb hs h hi
  go_enter Tryd.func41, Tryd.ntmps41
  go_wp2_with fail
  obtain ⟨w1, hw1⟩ : ∃ w1, w1 = w.alloc (.cells #[.int .i64 0, .string { data := #[] }, .int .i64 0] 91) := ⟨_, rfl⟩
  have k1 : Keeps (fun _ => False) w w1 := by rw [hw1]; exact (Keeps.refl _ _).alloc _
  have HZ1 := Lib.hid (show Blk w1 w.heap.size 91 #[.int .i64 0, .string { data := #[] }, .int .i64 0] by rw [hw1]; exact Blk.new _ _ _)
  rw [← hw1]
  have HB1 := Lib.hid (HB.out.keeps k1 id)
  obtain ⟨c0, c1⟩ := HB1.out.cells2
  have x0 := (World.cell?_of_block (w := w) (k1.block _ (block_lt_of_cell x0) id)).trans x0
  have x1 := (World.cell?_of_block (w := w) (k1.block _ (block_lt_of_cell x1) id)).trans x1
  have x2 := (World.cell?_of_block (w := w) (k1.block _ (block_lt_of_cell x2) id)).trans x2
  have HK1 := Lib.hid k1
  clear hw1 k1 f0 f1
  go_cut [3] (fun s3 wx => ∃ q : Nat, s3 = .pointer (some ⟨q, 0, none⟩) ∧ Hid (Blk wx q 91 #[.int .i64 x.kind, .string x.text, .int .i64 x.line] ∧ w1.heap.size ≤ q ∧ Keeps (fun _ => False) w1 wx))
  case first =>
    have ka : Keeps (fun _ => False) w1 (w1.alloc (.cells #[.int .i64 0, .string { data := #[] }, .int .i64 0] 91)) := (Keeps.refl _ _).alloc _
    have y0 := (World.cell?_of_block (w := w1) (ka.block _ (block_lt_of_cell c0) id)).trans c0
    have y1 := (World.cell?_of_block (w := w1) (ka.block _ (block_lt_of_cell c1) id)).trans c1
    have y2 := (World.cell?_of_block (w := w1) (ka.block _ (block_lt_of_cell x0) id)).trans x0
    have y3 := (World.cell?_of_block (w := w1) (ka.block _ (block_lt_of_cell x1) id)).trans x1
    have y4 := (World.cell?_of_block (w := w1) (ka.block _ (block_lt_of_cell x2) id)).trans x2
    clear ka
    go_region
    all_goals (go_wp2_with fail; go_meet)
    all_goals exact ⟨_, rfl, Lib.hid ⟨(Blk.new _ _ _).drew, Nat.le_refl _, by (repeat (first | (with_reducible assumption) | (with_reducible exact Keeps.refl _ _) | refine Keeps.drew ?_ | refine Keeps.drewN ?_ _ | refine Keeps.setCell ?_ (by simp) _ | refine Keeps.setRow ?_ (by simp) _ | refine Keeps.alloc ?_ _))⟩⟩
  case rest =>
    obtain ⟨q, rfl, HQ⟩ := hcut
    obtain ⟨⟨q0, q1, q2⟩, -⟩ := HQ.out.1.all3
    have hb2 := HB1.out.keeps HQ.out.2.2 id
    obtain ⟨c0, c1⟩ := hb2.cells2
    have f1 := hb2.frozen 1
    have HB2 := Lib.hid hb2
    have HZ2 := Lib.hid (HZ1.out.keeps HQ.out.2.2 id)
    have hqn := HQ.out.2.1
    have hz1 := HK1.out.size
    have hz2 := HZ1.out.lt
    clear hb2 x0 x1 x2
    go_upto_region 3 with (fail)
    obtain ⟨w3, hw3⟩ : ∃ w3, w3 = wc.setCell ⟨g, 1, none⟩ (.int .i64 ((at_ : Int) + 1)) := ⟨_, rfl⟩
    have k3 : Keeps (fun i => i = g) wc w3 := by rw [hw3]; exact (Keeps.refl (fun i => i = g) wc).setCell (p := ⟨g, 1, none⟩) (fun _ => rfl) _
    have HB3 := Lib.hid (show Blk w3 g 44 #[.slice (some ⟨b, off, none⟩) l.length c, .int .i64 ((at_ : Int) + 1)] by rw [hw3]; exact HB2.out.set_ 1 _)
    have hz3 := HZ2.out.keeps k3 (by omega)
    have hq3 := HQ.out.1.keeps k3 (by omega)
    obtain ⟨⟨q0, q1, q2⟩, -⟩ := hq3.all3
    obtain ⟨⟨z0, z1, z2⟩, zf0, zf1, zf2⟩ := hz3.all3
    rw [← hw3]
    have HZ3 := Lib.hid hz3
    have HK3 := Lib.hid (Keeps.and_ ((HK1.out.trans HQ.out.2.2).none_ (S := fun i => i = g)) k3 (fun _ _ h => h))
    clear hw3 k3 hz3 hq3 c0 c1 f1
    go_wp2_with fail
    refine ret_cell rfl w.heap.size 91 _ _ rfl (((HZ3.out.set_ 0 _).set_ 1 _).set_ 2 _) Tryd.underlying91 rfl (by kernel_rfl) rfl ?_
    have hks := (((Keeps.refl (fun i => i = w.heap.size) w3).setCell (p := ⟨w.heap.size, 0, none⟩) (fun _ => rfl) (.int .i64 x.kind)).setCell (p := ⟨w.heap.size, 1, none⟩) (fun _ => rfl) (.string x.text)).setCell (p := ⟨w.heap.size, 2, none⟩) (fun _ => rfl) (.int .i64 x.line)
    have hks2 := HK3.out.and_ hks (fun i hi e => by omega)
    exact ⟨rfl, H.out.step hlt hks2 (HB3.out.keeps hks (by omega)) HB.out, hks2⟩
end
end Go.Proofs.YtemjbblehiaobaaDoor
