/-
  'do' of law11: an act on a store and on the document's answers alike, and leaves both alike. (Made by gen_do11.py.)
-/
import Derived.Test.YtgpfmkkkpdpdfaaDoorSame11
import Derived.Test.YtgpfmkkkpdpdfaaDoorOps11
namespace Go.Proofs.YtgpfmkkkpdpdfaaDoor
open Go.RowKit Go.Maps

def opV11 (o : Op11) : Value := .agg #[.int .u8 o.kind, .string o.a, .string o.b, .string o.s, .int .i64 o.n, .slice o.ka o.kn o.kc]
/-- behind an act on both sides -/
def Did (w0 w : World) (s M : Nat) (most : Int) (n : Nat) (x : Nat × List SFile) (e : Ending) (w' : World) : Prop :=
  ∃ v L, e = .returned (.tuple #[docS v most x.1, .bool true]) ∧ Sto w0 w' s M most x.1 L n ∧ L.map SRep.f = x.2 ∧ DocL w' v x.2 ∧ Keeps (fun i => w0.heap.size ≤ i ∧ StT w i) w w'
theorem Blk.cells6 {w : World} {g : Nat} {t : TypeId} {a b c d e f : Value} (h : Blk w g t #[a, b, c, d, e, f]) : w.cell? ⟨g, 0, none⟩ = some a ∧ w.cell? ⟨g, 1, none⟩ = some b ∧ w.cell? ⟨g, 2, none⟩ = some c ∧ w.cell? ⟨g, 3, none⟩ = some d ∧ w.cell? ⟨g, 4, none⟩ = some e ∧ w.cell? ⟨g, 5, none⟩ = some f := ⟨h.cell 0, h.cell 1, h.cell 2, h.cell 3, h.cell 4, h.cell 5⟩
theorem StT.back {w w' : World} {i : Nat} (h : StT w' i) (k : Keeps (fun _ => False) w w') (hi : i < w.heap.size) : StT w i := by
  have e := k.block i hi id
  rcases h with ⟨cs, h⟩ | ⟨cs, h⟩ | ⟨cs, h⟩ | ⟨es, c, h⟩
  · exact .inl ⟨cs, e.symm.trans h⟩
  · exact .inr (.inl ⟨cs, e.symm.trans h⟩)
  · exact .inr (.inr (.inl ⟨cs, e.symm.trans h⟩))
  · exact .inr (.inr (.inr ⟨es, c, e.symm.trans h⟩))
theorem DocL.drew {w : World} {v : Value} {l : List SFile} (h : DocL w v l) : DocL w.drew v l := h
theorem Blk.new3 (w : World) (o p : Obj) (t : TypeId) (cs : Array Value) : Blk (((w.alloc o).alloc p).alloc (.cells cs t)) (w.heap.size + 2) t cs := by
  have := Blk.new2 (w.alloc o) p t cs
  rwa [show (w.alloc o).heap.size + 1 = w.heap.size + 2 by simp] at this

/-- a block of three cells, whatever it holds -/
def Has (w : World) (g : Nat) (t : TypeId) : Prop := ∃ a b c, Blk w g t #[a, b, c]
theorem Has.drew {w : World} {g : Nat} {t : TypeId} (h : Has w g t) : Has w.drew g t := h
theorem Has.setCell {w : World} {g : Nat} {t : TypeId} (h : Has w g t) (p : Addr) (u : Value) : Has (w.setCell p u) g t := by
  obtain ⟨a, b, c, hb⟩ := h
  by_cases hp : g = p.block
  · unfold Blk at hb
    obtain ⟨g', k, sp⟩ := p
    simp only at hp
    subst hp
    unfold Has Blk
    simp only [World.setCell, Array.getElem?_modify, if_pos, hb, Option.map_some]
    cases sp with
    | some _ => exact ⟨a, b, c, rfl⟩
    | none =>
      match k with
      | 0 => exact ⟨u, b, c, rfl⟩
      | 1 => exact ⟨a, u, c, rfl⟩
      | 2 => exact ⟨a, b, u, rfl⟩
      | k + 3 => exact ⟨a, b, c, by simp [Array.setIfInBounds]⟩
  · exact ⟨a, b, c, hb.far hp u⟩
theorem Has.all {w : World} {g : Nat} {t : TypeId} (h : Has w g t) : ∃ a b c, (w.cell? ⟨g, 0, none⟩ = some a ∧ w.cell? ⟨g, 1, none⟩ = some b ∧ w.cell? ⟨g, 2, none⟩ = some c) ∧ w.frozen? ⟨g, 0, none⟩ = false ∧ w.frozen? ⟨g, 1, none⟩ = false ∧ w.frozen? ⟨g, 2, none⟩ = false := by
  obtain ⟨a, b, c, hb⟩ := h
  exact ⟨a, b, c, hb.all3⟩
theorem Has.keeps {S : Nat → Prop} {w w' : World} {g : Nat} {t : TypeId} (h : Has w g t) (k : Keeps S w w') (hg : ¬ S g) : Has w' g t := by
  obtain ⟨a, b, c, hb⟩ := h
  exact ⟨a, b, c, hb.keeps k hg⟩
theorem Has.other {F : Nat → Prop} {w w' : World} {g : Nat} {t : TypeId} (h : Has w g t) (k : Keeps (fun i => F i ∧ StT w i) w w') (h1 : t ≠ 88) (h2 : t ≠ 91) (h3 : t ≠ 5) : Has w' g t := by
  obtain ⟨a, b, c, hb⟩ := h
  exact ⟨a, b, c, hb.other k h1 h2 h3⟩

section
variable {w0 w w' : World} {s M bad n : Nat} {most : Int} {L : List SRep}
set_option maxRecDepth 100000 in
set_option maxHeartbeats 1000000 in
theorem do11_2 (h : Sto w0 w s M most bad L n) (hn : n < 1048576) {v : Value} (hd : DocL w v (L.map SRep.f)) (o : Op11) (hk : o.kind % 8 = 2) (h1 : o.a.size ≤ 100) :
    Calls Tryd.prog 34 #[.pointer (some ⟨s, 0, none⟩), docS v most bad, opV11 o] w (Did w0 w s M most (n + 1) (syncP bad (L.map SRep.f) o.a).2) := by
  have hlen := h.len
  have hlen2 : (L.map SRep.f).length ≤ 4294967296 := by rw [List.length_map]; omega
  have hbb := h.hb
  have hlo := h.keeps.size
  have H := Lib.hid h
  have HD := Lib.hid hd
  have HL2 := Lib.hid hlen2
  obtain ⟨l, hl⟩ : ∃ l, l = L.map SRep.f := ⟨_, rfl⟩
  rw [← hl] at HD HL2 ⊢
  have HL := Lib.hid hl
  obtain ⟨a0, n0, c0, rfl⟩ := hd.slc
  obtain ⟨kk, oa, ob, os, on, ka, kn, kc, keep⟩ := o
  simp only at hk h1
  have e2 : ((kk : Int) % 8 == 2) = true := by rw [beq_iff_eq]; omega
  obtain ⟨B0, hB0⟩ : ∃ B0, B0 = w.heap.size := ⟨_, rfl⟩
  have bx := ((Blk.new w 29 #[.slice a0 n0 c0, .int .i64 most, .int .i64 bad]).alloc (.cells #[.int .u8 kk, .string oa, .string ob, .string os, .int .i64 on, .slice ka kn kc] 56)).alloc (.cells #[.slice none 0 0, .int .i64 0, .int .i64 0] 29)
  have bo := (Blk.new2 w (.cells #[.slice a0 n0 c0, .int .i64 most, .int .i64 bad] 29) 56 #[.int .u8 kk, .string oa, .string ob, .string os, .int .i64 on, .slice ka kn kc]).alloc (.cells #[.slice none 0 0, .int .i64 0, .int .i64 0] 29)
  have bz := Blk.new3 w (.cells #[.slice a0 n0 c0, .int .i64 most, .int .i64 bad] 29) (.cells #[.int .u8 kk, .string oa, .string ob, .string os, .int .i64 on, .slice ka kn kc] 56) 29 #[.slice none 0 0, .int .i64 0, .int .i64 0]
  have HBX := Lib.hid bx
  have HBO := Lib.hid bo
  have HBZ := Lib.hid bz
  clear hd hlen2 hl bx bo bz h hk hB0
  unfold docS opV11 at *
  simp only
  go_enter Tryd.func34, Tryd.ntmps34
  go_wp2_with fail
  refine (rsync_any _ (.slice a0 n0 c0) most bad l oa (HD.out.keeps (by (repeat (first | (with_reducible assumption) | (with_reducible exact Keeps.refl _ _) | refine Keeps.drew ?_ | refine Keeps.drewN ?_ _ | refine Keeps.setCell ?_ (by simp) _ | refine Keeps.setRow ?_ (by simp) _ | refine Keeps.alloc ?_ _)))) HL2.out (by omega) hbb).mono ?_
  rintro e w2 ⟨v2, rfl, hd2, k2⟩
  obtain ⟨x, hx⟩ : ∃ x, x = syncP bad l oa := ⟨_, rfl⟩
  rw [← hx] at hd2 ⊢
  obtain ⟨a2, n2, c2, rfl⟩ := hd2.slc
  unfold docS
  obtain ⟨d1, hd1⟩ : ∃ d1 : Int, d1 = x.1 := ⟨_, rfl⟩
  obtain ⟨d2, hdd2⟩ : ∃ d2 : Nat, d2 = x.2.1 := ⟨_, rfl⟩
  have HX := Lib.hid hx
  have HX1 := Lib.hid hd1
  have HX2 := Lib.hid hdd2
  rw [← hd1, ← hdd2]
  have kw2 : Keeps (fun _ => False) w w2 := Keeps.trans (by (repeat (first | (with_reducible assumption) | (with_reducible exact Keeps.refl _ _) | refine Keeps.drew ?_ | refine Keeps.drewN ?_ _ | refine Keeps.setCell ?_ (by simp) _ | refine Keeps.setRow ?_ (by simp) _ | refine Keeps.alloc ?_ _))) k2
  have bo2 := HBO.out.keeps k2 id
  have bz2 := HBZ.out.keeps k2 id
  have HKW2 := Lib.hid kw2
  have HD2 := Lib.hid hd2
  have HBO2 := Lib.hid bo2
  have HBZ2 := Lib.hid bz2
  have hsz2 := bz2.lt
  obtain ⟨o0, o1, o2, o3, o4, o5⟩ := bo2.cells6
  obtain ⟨-, z0, z1, z2⟩ := bz2.all3
  clear hx hd1 hdd2 hd2 k2 kw2 bo2 bz2
  go_wp2_with fail
  have kq : Keeps (fun _ => False) w2 (w2.alloc (.cells #[.slice a2 n2 c2, .int .i64 most, .int .i64 d2] 29)) := by (repeat (first | (with_reducible assumption) | (with_reducible exact Keeps.refl _ _) | refine Keeps.drew ?_ | refine Keeps.drewN ?_ _ | refine Keeps.setCell ?_ (by simp) _ | refine Keeps.setRow ?_ (by simp) _ | refine Keeps.alloc ?_ _))
  have hby := Blk.new w2 29 #[.slice a2 n2 c2, .int .i64 most, .int .i64 d2]
  obtain ⟨wq, hwq⟩ : ∃ wq, wq = w2.alloc (.cells #[.slice a2 n2 c2, .int .i64 most, .int .i64 d2] 29) := ⟨_, rfl⟩
  rw [← hwq] at kq hby ⊢
  have hqz : wq.heap.size = w2.heap.size + 1 := by rw [hwq]; simp
  obtain ⟨B3, hB3⟩ : ∃ B3, B3 = w2.heap.size := ⟨_, rfl⟩
  rw [← hB3] at hby hqz hsz2 ⊢
  have HQ := Lib.hid (H.out.same (HKW2.out.trans kq))
  have HDQ := Lib.hid (HD2.out.keeps kq)
  have HBOQ := Lib.hid (HBO2.out.keeps kq id)
  have HBZQ := Lib.hid (HBZ2.out.keeps kq id)
  have HBY := Lib.hid hby
  have HKQ := Lib.hid (HKW2.out.trans kq)
  obtain ⟨B2, hB2⟩ : ∃ B2, B2 = w.heap.size + 2 := ⟨_, rfl⟩
  rw [← hB2] at HBZQ hsz2 ⊢
  have HSB := Lib.hid (fun W (k : Keeps (fun i => i = B2) wq W) => HQ.out.beside k fun i e => ⟨by omega, 29, #[.slice none 0 0, .int .i64 0, .int .i64 0], by rw [e]; exact HBZQ.out, by decide, by decide, by decide⟩)
  clear o0 o1 o2 o3 o4 o5 z0 z1 z2
  obtain ⟨y0, y1, y2⟩ := hby.cells3
  obtain ⟨o0, o1, o2, o3, o4, o5⟩ := HBOQ.out.cells6
  obtain ⟨⟨zz0, zz1, zz2⟩, z0, z1, z2⟩ := HBZQ.out.all3
  have hne : B2 ≠ B3 := by omega
  have hne1 : B2 ≠ w.heap.size + 1 := by omega
  have HSY := Lib.hid (fun W (k : Keeps (fun i => i = B2) wq W) => ssync (HSB.out W k) hn oa)
  rw [← HL.out, ← HX.out] at HSY
  have HY := Lib.hid (fun W (k : Keeps (fun i => i = B2) wq W) => HBY.out.keeps k (fun e => hne e.symm))
  have HE0 := Lib.hid H.out.ety
  have HK0 := Lib.hid (show Keeps (fun i => w0.heap.size ≤ i) w0 wq from (H.out.keeps.none_).trans (HKQ.out.none_))
  have hB2lo : w0.heap.size ≤ B2 := by omega
  have HBB2 := Lib.hid hB2
  clear kq hwq hby hB3 hB2
  have hZ0 : Has wq B2 29 := ⟨_, _, _, HBZQ.out⟩
  go_region_with (first
    | (go_at_call 43; go_must (refine (HSY.out _ (by (repeat (first | (with_reducible assumption) | (with_reducible exact Keeps.refl _ _) | refine Keeps.drew ?_ | refine Keeps.drewN ?_ _ | refine Keeps.setCell ?_ (by simp) _ | refine Keeps.setRow ?_ (by simp) _ | refine Keeps.alloc ?_ _)))).mono ?_; rintro e w3 ⟨v3, L3, rfl, hE3, hS3, hl3, k3⟩; have hZ3 : Has w3 B2 29 := Has.other (by (repeat (first | (with_reducible assumption) | (with_reducible refine Has.drew ?_) | (with_reducible refine Has.setCell ?_ _ _)))) k3 (by decide) (by decide) (by decide); have Y3 := Blk.other (HY.out _ (by (repeat (first | (with_reducible assumption) | (with_reducible exact Keeps.refl _ _) | refine Keeps.drew ?_ | refine Keeps.drewN ?_ _ | refine Keeps.setCell ?_ (by simp) _ | refine Keeps.setRow ?_ (by simp) _ | refine Keeps.alloc ?_ _)))) k3 (by decide) (by decide) (by decide); obtain ⟨y0, y1, y2⟩ := Y3.cells3; obtain ⟨za, zb, zc, ⟨zz0, zz1, zz2⟩, z0, z1, z2⟩ := hZ3.all; have K3 := Lib.hid (show Keeps (fun i => w0.heap.size ≤ i) w0 w3 from (HK0.out.trans (Keeps.mono (show Keeps (fun i => i = B2) wq _ by (repeat (first | (with_reducible assumption) | (with_reducible exact Keeps.refl _ _) | refine Keeps.drew ?_ | refine Keeps.drewN ?_ _ | refine Keeps.setCell ?_ (by simp) _ | refine Keeps.setRow ?_ (by simp) _ | refine Keeps.alloc ?_ _))) fun i _ e => by omega)).trans (k3.mono fun i _ e => e.1)); have HOF := Lib.hid (fun W (k : Keeps (fun i => i = B2) w3 W) => of_err W (hE3.keeps k (fun i cs hb e => by obtain ⟨_, _, _, hz⟩ := hZ3; exact Blk.ne_ hb hz (by decide) e)) (ety_keeps HE0.out (S := fun i => w0.heap.size ≤ i) (K3.out.trans (Keeps.mono k fun i _ e => by omega)) (fun i hi e => by omega))); rw [← HX1.out] at HOF; have HS3 := Lib.hid hS3; have HL3 := Lib.hid hl3; have HKK3 := Lib.hid k3; have HY3 := Lib.hid Y3; clear hE3 hS3 hl3 k3 Y3))
    | (go_at_call 37; go_must (refine (HOF.out _ (by (repeat (first | (with_reducible assumption) | (with_reducible exact Keeps.refl _ _) | refine Keeps.drew ?_ | refine Keeps.drewN ?_ _ | refine Keeps.setCell ?_ (by simp) _ | refine Keeps.setRow ?_ (by simp) _ | refine Keeps.alloc ?_ _)))).mono ?_; rintro e w4 ⟨rfl, k4⟩; have Y4 := Blk.keeps (HY3.out.keeps (show Keeps (fun i => i = B2) w3 _ by (repeat (first | (with_reducible assumption) | (with_reducible exact Keeps.refl _ _) | refine Keeps.drew ?_ | refine Keeps.drewN ?_ _ | refine Keeps.setCell ?_ (by simp) _ | refine Keeps.setRow ?_ (by simp) _ | refine Keeps.alloc ?_ _))) (fun e => hne e.symm)) k4 id; obtain ⟨y0, y1, y2⟩ := Y4.cells3; have hZ4 : Has w4 B2 29 := Has.keeps (by (repeat (first | (with_reducible assumption) | (with_reducible refine Has.drew ?_) | (with_reducible refine Has.setCell ?_ _ _)))) k4 id; obtain ⟨za4, zb4, zc4, ⟨zz40, zz41, zz42⟩, z40, z41, z42⟩ := hZ4.all; have HK4 := Lib.hid k4; clear k4 Y4)))
  all_goals
    have hset : Keeps (fun i => i = B2) w4 (((w4.setCell ⟨B2, 0, none⟩ (.slice a2 n2 c2)).setCell ⟨B2, 1, none⟩ (.int .i64 most)).setCell ⟨B2, 2, none⟩ (.int .i64 d2)) := (((Keeps.refl (fun i => i = B2) w4).setCell (fun _ => rfl) _).setCell (fun _ => rfl) _).setCell (fun _ => rfl) _
    obtain ⟨x1, x2, x3, hz4⟩ := hZ4
    have hfin := Sto.beside (HS3.out.same HK4.out) hset (fun i e => by subst e; exact ⟨by omega, ⟨_, _, hz4, by decide, by decide, by decide⟩⟩)
    have hdoc : DocL _ _ _ := OwnS.keeps ((Sto.doc HDQ.out.drew HKK3.out).keeps HK4.out) hset (fun i _ _ ⟨cs, hb⟩ e => Blk.ne_ hb hz4 (by decide) e)
    have hbf : Blk (((w4.setCell ⟨B2, 0, none⟩ (.slice a2 n2 c2)).setCell ⟨B2, 1, none⟩ (.int .i64 most)).setCell ⟨B2, 2, none⟩ (.int .i64 d2)) B2 29 #[.slice a2 n2 c2, .int .i64 most, .int .i64 d2] := hz4.set3 _ _ _
    have hk : Keeps (fun i => w0.heap.size ≤ i ∧ StT w i) w _ := Keeps.and_ (Keeps.trans (Keeps.and_ (HKQ.out.none_.drew) HKK3.out (fun i hi e => ⟨e.1, e.2.back HKQ.out.drew hi⟩)) HK4.out.none_) hset (fun i hi e => by have := HBB2.out; omega)
    have HF := Lib.hid hfin
    have HDF := Lib.hid hdoc
    have HBF := Lib.hid hbf
    have HKF := Lib.hid hk
    clear hfin hdoc hbf hk hset hz4
    go_wp2_with fail
    try simp only [Exit.inBlock, Exit.then]
    refine ret_cell_tmp rfl B2 29 _ _ rfl HBF.out Tryd.underlying29 rfl (by kernel_rfl) rfl ?_
    exact ⟨_, L3, by rw [← HX.out, ← HX2.out]; rfl, by rw [← HX.out]; exact HF.out, by rw [← HX.out]; exact HL3.out, by rw [← HX.out]; exact HDF.out, HKF.out⟩
end
end Go.Proofs.YtgpfmkkkpdpdfaaDoor
