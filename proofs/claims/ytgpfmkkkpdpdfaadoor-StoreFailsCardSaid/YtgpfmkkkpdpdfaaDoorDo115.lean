/-
  'do' of law11: an act on a store and on the document's answers alike, and leaves both alike. (Made by gen_do11.py.)
-/
import Derived.Test.YtgpfmkkkpdpdfaaDoorDo112
namespace Go.Proofs.YtgpfmkkkpdpdfaaDoor
open Go.RowKit Go.Maps

section
variable {w0 w w' : World} {s M bad n : Nat} {most : Int} {L : List SRep}
theorem Sto.mono_n (h : Sto w0 w s M most bad L n) (hn : n < 1048576 := by assumption) : Sto w0 w s M most bad L (n + 1) := { h with len := Nat.le_succ_of_le h.len, hn := hn }
set_option maxRecDepth 100000 in
set_option maxHeartbeats 1000000 in
theorem do11_5 (h : Sto w0 w s M most bad L n) (hn : n < 1048576) {v : Value} (hd : DocL w v (L.map SRep.f)) (o : Op11) (hk : o.kind % 8 = 5) (h1 : IntB o.n) :
    Calls Tryd.prog 34 #[.pointer (some ⟨s, 0, none⟩), docS v most bad, opV11 o] w (Did w0 w s M most (n + 1) (o.n.toNat, L.map SRep.f)) := by
  have hlen := h.len
  have hlen2 : (L.map SRep.f).length ≤ 4294967296 := by rw [List.length_map]; omega
  have hbb := h.hb
  have hlo := h.keeps.size
  have H := Lib.hid h
  have HD := Lib.hid hd
  have HL2 := Lib.hid hlen2
  obtain ⟨l, hl⟩ : ∃ l, l = L.map SRep.f := ⟨_, rfl⟩
  rw [← hl] at HD HL2 ⊢
  have HL := Lib.hid hl
  obtain ⟨a0, n0, c0, rfl⟩ := hd.slc
  obtain ⟨kk, oa, ob, os, on, ka, kn, kc, keep⟩ := o
  simp only at hk h1
  have e2 : ((kk : Int) % 8 == 2) = false := by rw [beq_eq_false_iff_ne]; omega
  have e3 : ((kk : Int) % 8 == 3) = false := by rw [beq_eq_false_iff_ne]; omega
  have e4 : ((kk : Int) % 8 == 4) = false := by rw [beq_eq_false_iff_ne]; omega
  have e5 : ((kk : Int) % 8 == 5) = true := by rw [beq_iff_eq]; omega
  obtain ⟨B0, hB0⟩ : ∃ B0, B0 = w.heap.size := ⟨_, rfl⟩
  have bx := ((Blk.new w 29 #[.slice a0 n0 c0, .int .i64 most, .int .i64 bad]).alloc (.cells #[.int .u8 kk, .string oa, .string ob, .string os, .int .i64 on, .slice ka kn kc] 56)).alloc (.cells #[.slice none 0 0, .int .i64 0, .int .i64 0] 29)
  have bo := (Blk.new2 w (.cells #[.slice a0 n0 c0, .int .i64 most, .int .i64 bad] 29) 56 #[.int .u8 kk, .string oa, .string ob, .string os, .int .i64 on, .slice ka kn kc]).alloc (.cells #[.slice none 0 0, .int .i64 0, .int .i64 0] 29)
  have bz := Blk.new3 w (.cells #[.slice a0 n0 c0, .int .i64 most, .int .i64 bad] 29) (.cells #[.int .u8 kk, .string oa, .string ob, .string os, .int .i64 on, .slice ka kn kc] 56) 29 #[.slice none 0 0, .int .i64 0, .int .i64 0]
  have HBX := Lib.hid bx
  have HBO := Lib.hid bo
  have HBZ := Lib.hid bz
  clear hd hlen2 hl bx bo bz h hk hB0
  unfold docS opV11 at *
  simp only
  go_enter Tryd.func34, Tryd.ntmps34
  go_wp2_with fail
  have kw : Keeps (fun _ => False) w (((w.alloc (.cells #[.slice a0 n0 c0, .int .i64 most, .int .i64 bad] 29)).alloc (.cells #[.int .u8 kk, .string oa, .string ob, .string os, .int .i64 on, .slice ka kn kc] 56)).alloc (.cells #[.slice none 0 0, .int .i64 0, .int .i64 0] 29)) := by (repeat (first | (with_reducible assumption) | (with_reducible exact Keeps.refl _ _) | refine Keeps.drew ?_ | refine Keeps.drewN ?_ _ | refine Keeps.setCell ?_ (by simp) _ | refine Keeps.setRow ?_ (by simp) _ | refine Keeps.alloc ?_ _))
  refine (sfail (H.out.same kw) on h1.2).mono ?_
  rintro e w3 ⟨L3, rfl, hS3, hl3, k3⟩
  have bx3 := HBX.out.other k3 (by decide) (by decide) (by decide)
  have bo3 := HBO.out.other k3 (by decide) (by decide) (by decide)
  have bz3 := HBZ.out.other k3 (by decide) (by decide) (by decide)
  have HBX3 := Lib.hid bx3
  have HBO3 := Lib.hid bo3
  have HBZ3 := Lib.hid bz3
  have HD3 := Lib.hid (Sto.doc (HD.out.keeps kw) k3)
  have hk3 : Keeps (fun i => w0.heap.size ≤ i ∧ StT w i) w w3 := Keeps.and_ kw.none_ k3 (fun i hi e => ⟨e.1, e.2.back kw hi⟩)
  have HK3 := Lib.hid hk3
  have HS3 := Lib.hid hS3
  have HL3 := Lib.hid hl3
  have hsz3 := bz3.lt
  obtain ⟨⟨x0, x1, x2⟩, xf0, xf1, xf2⟩ := bx3.all3
  obtain ⟨o0, o1, o2, o3, o4, o5⟩ := bo3.cells6
  obtain ⟨⟨z0, z1, z2⟩, zf0, zf1, zf2⟩ := bz3.all3
  clear kw hS3 hl3 k3 hk3 bx3 bo3 bz3
  go_wp2_with fail
  try simp only [Exit.inBlock, Exit.then]
  have hset : Keeps (fun i => i = w.heap.size ∨ i = w.heap.size + 2) w3 ((((w3.setCell ⟨w.heap.size, 2, none⟩ (.int .i64 (max 0 on))).setCell ⟨w.heap.size + 2, 0, none⟩ (.slice a0 n0 c0)).setCell ⟨w.heap.size + 2, 1, none⟩ (.int .i64 most)).setCell ⟨w.heap.size + 2, 2, none⟩ (.int .i64 (max 0 on))) := ((((Keeps.refl (fun i => i = w.heap.size ∨ i = w.heap.size + 2) w3).setCell (fun _ => .inl rfl) _).setCell (fun _ => .inr rfl) _).setCell (fun _ => .inr rfl) _).setCell (fun _ => .inr rfl) _
  have hmx : (max 0 on : Int) = ((on.toNat : Nat) : Int) := by omega
  refine ret_cell_tmp rfl (w.heap.size + 2) 29 _ _ rfl ((HBZ3.out.far (by simp) _).set3 _ _ _) Tryd.underlying29 rfl (by kernel_rfl) rfl ?_
  refine ⟨_, L3, by rw [← hmx]; rfl, HS3.out.beside hset (fun i e => ⟨by omega, ?_⟩) |>.mono_n, HL3.out.trans HL.out.symm, OwnS.keeps HD3.out hset (fun i _ _ ⟨cs, hb⟩ e => ?_), HK3.out.and_ hset (fun i hi e => by omega)⟩
  · rcases e with rfl | rfl
    · exact ⟨_, _, HBX3.out, by decide, by decide, by decide⟩
    · exact ⟨_, _, HBZ3.out, by decide, by decide, by decide⟩
  · rcases e with rfl | rfl
    · exact Blk.ne_ hb HBX3.out (by decide) rfl
    · exact Blk.ne_ hb HBZ3.out (by decide) rfl
set_option maxRecDepth 100000 in
set_option maxHeartbeats 1000000 in
theorem do11_6 (h : Sto w0 w s M most bad L n) (hn : n < 1048576) {v : Value} (hd : DocL w v (L.map SRep.f)) (o : Op11) (hk : o.kind % 8 = 6) (h1 : SlAt intR 1 w0 o.ka o.kn o.keep) (h2 : ∀ k ∈ o.keep, IntB k) (h3 : o.kn ≤ 20) :
    Calls Tryd.prog 34 #[.pointer (some ⟨s, 0, none⟩), docS v most bad, opV11 o] w (Did w0 w s M most (n + 1) (0, crashP o.keep (L.map SRep.f))) := by
  have hlen := h.len
  have hlen2 : (L.map SRep.f).length ≤ 4294967296 := by rw [List.length_map]; omega
  have hbb := h.hb
  have hlo := h.keeps.size
  have H := Lib.hid h
  have HD := Lib.hid hd
  have HL2 := Lib.hid hlen2
  obtain ⟨l, hl⟩ : ∃ l, l = L.map SRep.f := ⟨_, rfl⟩
  rw [← hl] at HD HL2 ⊢
  have HL := Lib.hid hl
  obtain ⟨a0, n0, c0, rfl⟩ := hd.slc
  obtain ⟨kk, oa, ob, os, on, ka, kn, kc, keep⟩ := o
  simp only at hk h1 h2 h3
  have e2 : ((kk : Int) % 8 == 2) = false := by rw [beq_eq_false_iff_ne]; omega
  have e3 : ((kk : Int) % 8 == 3) = false := by rw [beq_eq_false_iff_ne]; omega
  have e4 : ((kk : Int) % 8 == 4) = false := by rw [beq_eq_false_iff_ne]; omega
  have e5 : ((kk : Int) % 8 == 5) = false := by rw [beq_eq_false_iff_ne]; omega
  have e6 : ((kk : Int) % 8 == 6) = true := by rw [beq_iff_eq]; omega
  have HSL := Lib.hid h1
  have HKB := Lib.hid h2
  clear h1 h2
  obtain ⟨B0, hB0⟩ : ∃ B0, B0 = w.heap.size := ⟨_, rfl⟩
  have bx := ((Blk.new w 29 #[.slice a0 n0 c0, .int .i64 most, .int .i64 bad]).alloc (.cells #[.int .u8 kk, .string oa, .string ob, .string os, .int .i64 on, .slice ka kn kc] 56)).alloc (.cells #[.slice none 0 0, .int .i64 0, .int .i64 0] 29)
  have bo := (Blk.new2 w (.cells #[.slice a0 n0 c0, .int .i64 most, .int .i64 bad] 29) 56 #[.int .u8 kk, .string oa, .string ob, .string os, .int .i64 on, .slice ka kn kc]).alloc (.cells #[.slice none 0 0, .int .i64 0, .int .i64 0] 29)
  have bz := Blk.new3 w (.cells #[.slice a0 n0 c0, .int .i64 most, .int .i64 bad] 29) (.cells #[.int .u8 kk, .string oa, .string ob, .string os, .int .i64 on, .slice ka kn kc] 56) 29 #[.slice none 0 0, .int .i64 0, .int .i64 0]
  have HBX := Lib.hid bx
  have HBO := Lib.hid bo
  have HBZ := Lib.hid bz
  clear hd hlen2 hl bx bo bz h hk hB0
  unfold docS opV11 at *
  simp only
  go_enter Tryd.func34, Tryd.ntmps34
  go_wp2_with fail
  have kw : Keeps (fun _ => False) w (((w.alloc (.cells #[.slice a0 n0 c0, .int .i64 most, .int .i64 bad] 29)).alloc (.cells #[.int .u8 kk, .string oa, .string ob, .string os, .int .i64 on, .slice ka kn kc] 56)).alloc (.cells #[.slice none 0 0, .int .i64 0, .int .i64 0] 29)) := by (repeat (first | (with_reducible assumption) | (with_reducible exact Keeps.refl _ _) | refine Keeps.drew ?_ | refine Keeps.drewN ?_ _ | refine Keeps.setCell ?_ (by simp) _ | refine Keeps.setRow ?_ (by simp) _ | refine Keeps.alloc ?_ _))
  refine (scrash (H.out.same kw) keep ka kn kc HSL.out HKB.out (by omega)).mono ?_
  rintro e w3 ⟨L3, rfl, hS3, hl3, k3⟩
  have bx3 := HBX.out.other k3 (by decide) (by decide) (by decide)
  have bo3 := HBO.out.other k3 (by decide) (by decide) (by decide)
  have bz3 := HBZ.out.other k3 (by decide) (by decide) (by decide)
  have HBX3 := Lib.hid bx3
  have HBO3 := Lib.hid bo3
  have HBZ3 := Lib.hid bz3
  have HD3 := Lib.hid (Sto.doc (HD.out.keeps kw) k3)
  have hk3 : Keeps (fun i => w0.heap.size ≤ i ∧ StT w i) w w3 := Keeps.and_ kw.none_ k3 (fun i hi e => ⟨e.1, e.2.back kw hi⟩)
  have HK3 := Lib.hid hk3
  have HS3 := Lib.hid hS3
  have HL3 := Lib.hid hl3
  have hsz3 := bz3.lt
  obtain ⟨⟨x0, x1, x2⟩, xf0, xf1, xf2⟩ := bx3.all3
  obtain ⟨o0, o1, o2, o3, o4, o5⟩ := bo3.cells6
  obtain ⟨⟨z0, z1, z2⟩, zf0, zf1, zf2⟩ := bz3.all3
  clear kw hS3 hl3 k3 hk3 bx3 bo3 bz3
  go_wp2_with fail
  have hK0 : Keeps (fun i => w0.heap.size ≤ i) w0 w3 := (H.out.keeps.none_).trans (HK3.out.mono fun i _ e => e.1)
  refine (rcrash_any w3 (.slice a0 n0 c0) most bad l keep ka kn kc HD3.out HL2.out (fun f hf => by rw [HL.out] at hf; obtain ⟨r, hr, rfl⟩ := List.mem_map.1 hf; have := H.out.size hr; omega) (HSL.out.keeps hK0 (fun i hi e => by omega)) HKB.out (by omega)).mono ?_
  rintro e w4 ⟨v4, rfl, hd4, k4⟩
  obtain ⟨a4, n4, c4, rfl⟩ := hd4.slc
  have HD4 := Lib.hid hd4
  have HK4 := Lib.hid k4
  have HBZ4 := Lib.hid (HBZ3.out.keeps k4 id)
  clear z0 z1 z2 zf0 zf1 zf2 hK0
  obtain ⟨⟨z0, z1, z2⟩, zf0, zf1, zf2⟩ := HBZ4.out.all3
  clear hd4 k4
  unfold docS
  go_wp2_with fail
  try simp only [Exit.inBlock, Exit.then]
  have hset : Keeps (fun i => i = w.heap.size + 2) w4 (((w4.setCell ⟨w.heap.size + 2, 0, none⟩ (.slice a4 n4 c4)).setCell ⟨w.heap.size + 2, 1, none⟩ (.int .i64 most)).setCell ⟨w.heap.size + 2, 2, none⟩ (.int .i64 0)) := (((Keeps.refl (fun i => i = w.heap.size + 2) w4).setCell (fun _ => rfl) _).setCell (fun _ => rfl) _).setCell (fun _ => rfl) _
  refine ret_cell_tmp rfl (w.heap.size + 2) 29 _ _ rfl (HBZ4.out.set3 _ _ _) Tryd.underlying29 rfl (by kernel_rfl) rfl ?_
  refine ⟨_, L3, rfl, (HS3.out.same HK4.out).beside hset (fun i e => ⟨by omega, ?_⟩) |>.mono_n, HL3.out.trans (by rw [HL.out]), OwnS.keeps HD4.out hset (fun i _ _ ⟨cs, hb⟩ e => ?_), (HK3.out.trans HK4.out.none_).and_ hset (fun i hi e => by omega)⟩
  · subst e
    exact ⟨_, _, HBZ4.out, by decide, by decide, by decide⟩
  · subst e
    exact Blk.ne_ hb HBZ4.out (by decide) rfl
end
end Go.Proofs.YtgpfmkkkpdpdfaaDoor
