/-
  restore.Load is what a log tells.
-/
import Derived.Test.YtkmpdobojgiegaaGreatDoorQResD
namespace Go.Proofs.YtkmpdobojgiegaaGreatDoor
open Go.RowKit
attribute [local go_sem] Oper.semAt_some

theorem tornS_snoc (l : List Int) (x : Int) : tornS (l ++ [x]) = tornS l + x := by unfold tornS; rw [List.foldl_append]; rfl
theorem lostS_snoc (l : List Itm) (x : Itm) : lostS (l ++ [x]) = min 1099511627776 (lostS l + lostI x) := by unfold lostS; rw [List.foldl_append]; rfl
theorem lostS_le : ∀ (n : Nat) (l : List Itm), l.length = n → 0 ≤ lostS l ∧ lostS l ≤ 1099511627776
  | 0, l, h => by obtain rfl := List.eq_nil_of_length_eq_zero h; unfold lostS; simp
  | n + 1, l, h => by
    obtain ⟨m, c, rfl⟩ : ∃ m c, l = m ++ [c] := ⟨l.dropLast, l.getLast (by intro e; rw [e] at h; cases h), (List.dropLast_concat_getLast _).symm⟩
    have hm : m.length = n := by simpa using h
    have ih := lostS_le n m hm
    have hx := lostI_le c
    rw [lostS_snoc]
    omega
theorem lostS_take {l : List Itm} {i : Nat} {x : Itm} (pre : List Itm) (h : l[i]? = some x) : lostS (pre ++ l.take (i + 1)) = min 1099511627776 (lostS (pre ++ l.take i) + lostI x) := by
  rw [List.take_add_one, h, Option.toList_some, ← List.append_assoc, lostS_snoc]
theorem tornI_le {d : ByteArray} (h : d.size ≤ 16777216) : 0 ≤ tornI d ∧ tornI d ≤ 16777216 := by
  have := scanN_le d.data.toList
  have e : d.data.toList.length = d.size := by simp
  unfold tornI
  omega
theorem scan_body (l : List UInt8) (x : Itm) (h : x ∈ scanI l) : x.body.size ≤ l.length := by
  have h2 : (flatR (scanI l)).length ≤ l.length := by rw [flat_scan l.length l (Nat.le_refl _), List.length_take]; omega
  have h3 : ∀ xs : List Itm, x ∈ xs → x.body.size ≤ (flatR xs).length := by
    intro xs
    induction xs with
    | nil => intro h; cases h
    | cons y ys ih =>
      intro h
      rw [flatR_cons, List.length_append, recP_len]
      rcases List.mem_cons.1 h with rfl | h
      · omega
      · have := ih h; omega
  have := h3 _ h
  omega
/-- the cells of a log of what has come -/
def logC (v : Value) (t : Int) (l : List Itm) : Array Value := #[v, .int .i64 t, .int .i64 (lostS l)]
/-- between two rounds -/
def IL (w : World) (pre : List Ch) (W : World) : Prop :=
  (∃ v, Blk W (w.heap.size + 1) 212 (logC v (tornS (pre.map Ch.torn)) (pre.flatMap Ch.xs)) ∧ OwnI W w.heap.size v (pre.flatMap Ch.xs)) ∧
  Blk W w.heap.size 212 #[.slice none 0 0, .int .i64 0, .int .i64 0] ∧ Keeps (fun _ => False) w W ∧ (pre.flatMap Ch.xs).length ≤ 1198373 * pre.length ∧ pre.length ≤ 16 ∧ 0 ≤ tornS (pre.map Ch.torn) ∧ tornS (pre.map Ch.torn) ≤ 16777216 * pre.length
theorem Blk.turn {B i : Nat} {t : TypeId} {cs : Array Value} {W W' : World} (h : Blk W i t cs) (k : Turn B W W') : Blk W' i t cs := h.keeps k fun hs => hs.2 _ _ _ h
theorem IL.turn {w W W' : World} {pre : List Ch} {B : Nat} (h : IL w pre W) (k : Turn B W W') (hB : w.heap.size ≤ B) : IL w pre W' := by
  obtain ⟨⟨v, h1, h2⟩, h3, h4, h5⟩ := h
  exact ⟨⟨v, h1.turn k, h2.turn k⟩, h3.turn k, h4.and_ k (fun i hi e => by have := e.1; omega), h5⟩
section
variable [Res] {w0 w w' : World} {s M bad n : Nat} {most : Int} {L : List SRep}
set_option maxRecDepth 100000 in
set_option maxHeartbeats 2000000 in
theorem resload_any (h : Sto w0 w s M most bad L n) (base : ByteArray) (k : Int) (hb : base.size ≤ 1048576) :
    Calls Tryz.prog 113 #[.pointer (some ⟨s, 0, none⟩), .string base, .int .i64 k] w fun e w' => (∃ v, e = .returned (.agg #[v, .int .i64 (tornS ((allP (L.map SRep.f) base (heldP k)).map tornI)), .int .i64 (lostS (loadP (allP (L.map SRep.f) base (heldP k))))]) ∧ OwnI w' w.heap.size v (loadP (allP (L.map SRep.f) base (heldP k)))) ∧ Keeps (fun _ => False) w w' := by
  obtain ⟨ds, hds⟩ : ∃ ds, ds = allP (L.map SRep.f) base (heldP k) := ⟨_, rfl⟩
  rw [← hds]
  have H := Lib.hid h
  have HDS := Lib.hid hds
  clear h hds
  refine (callsIn_wide (n := 9)).1 ?_
  refine callsIn_of_wp_marks Tryz.func113 rfl trivial ?_
  simp only [Tryz.ntmps113, List.size_toArray, List.length_cons, List.length_nil, Nat.reduceAdd, Nat.reduceSub, Array.replicate_succ, Array.replicate_zero, List.push_toArray, List.append_toArray, List.nil_append, List.cons_append]
  gi_wp2_with fail
  refine ⟨trivial, ?_⟩
  refine (callsIn_wide.2 (rscans_any _ _ base k)).mono ?_
  rintro e w1 ⟨rfl, ⟨c0, c1, c2⟩, hsz, k1⟩
  simp only [World.size_alloc] at c0 c1 c2 hsz ⊢
  have kA : Keeps (fun _ => False) w w1 := (((Keeps.refl _ w).alloc _).alloc _).trans k1
  have hb0 := ((Blk.new w 212 #[.slice none 0 0, .int .i64 0, .int .i64 0]).alloc (.cells #[.slice none 0 0, .int .i64 0, .int .i64 0] 212)).keeps k1 id
  have hb1 := (Blk.new2 w (.cells #[.slice none 0 0, .int .i64 0, .int .i64 0] 212) 212 #[.slice none 0 0, .int .i64 0, .int .i64 0]).keeps k1 id
  have HB0 := Lib.hid hb0
  have HB1 := Lib.hid hb1
  have HKA := Lib.hid kA
  have HSZ := Lib.hid hsz
  clear hb0 hb1 kA k1
  gi_wp2_with fail
  refine range_own (w := w1) (n := 7) (gf := 215) (lb := #[.pointer (some ⟨w.heap.size + 1 + 1, 0, none⟩), .pointer (some ⟨w.heap.size + 1 + 1 + 1, 0, none⟩), .pointer (some ⟨w.heap.size + 1 + 1 + 2, 0, none⟩)]) rfl (enters_of Tryz.func215 (by kernel_rfl) rfl)
    Ch.encs (fun _ => rfl) ResT (IL w) NxC
    (fun s A B hs t => hs.turn t (by rw [HSZ.out]; omega)) (fun s x k A B hs t => hs.turn t)
    ⟨⟨_, HB1.out, OwnS.none_⟩, HB0.out, HKA.out, by simp, by simp, by simp [tornS], by simp [tornS]⟩
    (fun x => { tmps := #[.pointer (some ⟨s, 0, none⟩), .string base, .int .i64 k, undef, undef, undef, .pointer (some ⟨w.heap.size, 0, none⟩), .pointer (some ⟨w.heap.size + 1, 0, none⟩), x.v, .int .i64 x.torn, undef, undef, .pointer (some ⟨s, 0, none⟩), .string base, .int .i64 k, .func (.func 215) #[] #[.pointer (some ⟨w.heap.size + 1 + 1, 0, none⟩), .pointer (some ⟨w.heap.size + 1 + 1 + 1, 0, none⟩), .pointer (some ⟨w.heap.size + 1 + 1 + 2, 0, none⟩)], x.v, .int .i64 x.torn, undef, undef, undef, undef, undef, undef, undef, undef, undef, undef, undef, undef, undef, undef, undef, undef, undef, undef, undef, undef, undef, undef, undef, undef, undef], defers := [] }) ?assign ?body (SC ds) ?call ?done
  case assign =>
    intro l x W K hK
    simp only [Ch.encs]
    gi_wp2
    exact hK
  case call =>
    intro l J W t hJ hY hJ0
    have kk : Keeps (fun _ => False) w1 W := t.mono fun i hi e => by have := e.1; omega
    have hs := scans_in l 7 ((H.out.same HKA.out).same kk) base k hb (w.heap.size + 1 + 1) (w.heap.size + 1 + 1 + 1) (w.heap.size + 1 + 1 + 2) ((World.cell?_of_block (w := w1) (kk.block _ (by show w.heap.size + 1 + 1 < _; rw [HSZ.out]; omega) id)).trans c0) ((World.cell?_of_block (w := w1) (kk.block _ (by show w.heap.size + 1 + 1 + 1 < _; rw [HSZ.out]; omega) id)).trans c1) ((World.cell?_of_block (w := w1) (kk.block _ (by show w.heap.size + 1 + 1 + 2 < _; rw [HSZ.out]; omega) id)).trans c2) J hJ hY hJ0
    rw [← HDS.out] at hs
    exact hs
  case body =>
    rintro l pre x W0 W hI0 ht ⟨hx, ⟨d, hxs, htn, hd⟩, hp⟩
    obtain ⟨xv, xs, torn⟩ := x
    simp only at hxs htn hx
    obtain ⟨a, c, rfl, -⟩ := hx.slat
    obtain ⟨⟨v, hbo0, hov0⟩, hbr0, hk0, hln, hpl, ht0, ht1⟩ := hI0
    have hbo := hbo0.turn ht
    have hov := hov0.turn ht
    have hbr := hbr0.turn ht
    have hne : ∀ i, v.ownBlock = some i → i < W0.heap.size := fun i hi => (hov0.ownBlk i hi).elim fun _ hb => hb.lt
    have hnt : ∀ i t cs, v.ownBlock = some i → Blk W i t cs → t = 136 := fun i t cs hi hb => by
      obtain ⟨cs2, hb2⟩ := hov.ownBlk i hi
      unfold Blk at hb hb2; rw [hb] at hb2; cases hb2; rfl
    have hxl : xs.length ≤ 1198373 := by
      have := scan_len d.data.toList
      have e : d.data.toList.length = d.size := by simp
      rw [hxs]; omega
    obtain ⟨pf, hpf⟩ : ∃ pf, pf = pre.flatMap Ch.xs := ⟨_, rfl⟩
    obtain ⟨T, hT⟩ : ∃ T, T = tornS (pre.map Ch.torn) := ⟨_, rfl⟩
    rw [← hpf] at hbo hov hln
    rw [← hT] at hbo ht0 ht1
    have htb := tornI_le hd
    rw [← htn] at htb
    have b0 := hbo.cell 0
    have f0 := hbo.frozen 0
    have HBO := Lib.hid hbo
    have HOV := Lib.hid hov
    have HBR := Lib.hid hbr
    have HX := Lib.hid hx
    have HK0 := Lib.hid hk0
    have HT := Lib.hid ht
    have HNE := Lib.hid hne
    have HNT := Lib.hid hnt
    have HLN := Lib.hid hln
    have HPF := Lib.hid hpf
    have HTT := Lib.hid hT
    have HTN := Lib.hid htn
    have hbW : w.heap.size + 1 < W0.heap.size := hbo0.lt
    have HXS := Lib.hid hxs
    have hW0 : w.heap.size ≤ W.heap.size := by have := hbr.lt; omega
    unfold logC at b0
    simp only [List.getElem?_toArray, List.getElem?_cons_zero] at b0
    clear hbo hov hbr hx hk0 ht hne hnt hpf hT hbo0 hov0 hbr0 hxs htn c0 c1 c2
    gi_wp2_with (with_reducible show wpListIn _ _ _ _ _ (⟨some 21, _, _, _, _, _⟩ :: _) _ _; go_must (refine wpListIn_append_many itmR 3 itmR_len (by decide) itmR_ones rfl (.tmp 19) (.tmp 20) 67 rfl w.heap.size W0.heap.size 136 (.agg #[.int .i64 0, .int .i64 0, .string ⟨#[]⟩]) 32 Tryz.underlying67 (by kernel_rfl) rfl (by omega) v (.slice a xs.length c) pf xs rfl HOV.out rfl HX.out (by omega) hW0 ?_; intro v7 w7 O7 k7; obtain ⟨a7, c7, rfl, -⟩ := OwnI.slat O7; obtain ⟨N7, hN7⟩ : ∃ N7, N7 = (pf ++ xs).length := ⟨_, rfl⟩; rw [← hN7] at O7 ⊢; have HN7 := Lib.hid hN7; clear hN7; have hb7 := HBO.out.keeps k7 (fun e => by have := HNT.out _ _ _ e HBO.out; revert this; decide); have HB7 := Lib.hid hb7; have b0 := hb7.cell 0; have b1 := hb7.cell 1; have f0 := hb7.frozen 0; have f1 := hb7.frozen 1; unfold logC at b0 b1; simp only [List.getElem?_toArray, List.getElem?_cons_zero, List.getElem?_cons_succ] at b0 b1; have HO7 := Lib.hid O7; have HK7 := Lib.hid k7; clear O7 k7 hb7))
    have hb9 : ∃ W9, W9 = (w7.setCell ⟨w.heap.size + 1, 0, none⟩ (.slice a7 N7 c7)).setCell ⟨w.heap.size + 1, 1, none⟩ (.int .i64 (T + torn)) := ⟨_, rfl⟩
    obtain ⟨W9, hW9⟩ := hb9
    rw [← hW9]
    have hb9 : Blk W9 (w.heap.size + 1) 212 (logC (.slice a7 N7 c7) (T + torn) pf) := by rw [hW9]; exact ((HB7.out.set_ 0 _).set_ 1 _)
    have k9 : Keeps (fun i => i = w.heap.size + 1) w7 W9 := by rw [hW9]; exact ((Keeps.refl (fun i => i = w.heap.size + 1) w7).setCell (fun _ => rfl) _).setCell (fun _ => rfl) _
    have HB9 := Lib.hid hb9
    have hx9 : OwnI W9 W0.heap.size (.slice a xs.length c) xs := OwnS.keeps (OwnS.keeps HX.out HK7.out (fun i hi _ _ e => by have := HNE.out i e; omega)) k9 (fun i hi _ _ e => by omega)
    have HX9 := Lib.hid hx9
    have HK9 := Lib.hid k9
    have hmix : Tryz.prog.follows .mixedOrders = true := by kernel_rfl
    clear hb9 k9 hW9 hx9
    gi_loopw [30] (fun u30 wr => ∃ (i : Nat), u30 = .int .i64 i ∧ i ≤ xs.length ∧ Hid (Blk wr (w.heap.size + 1) 212 (logC (.slice a7 N7 c7) (T + torn) (pf ++ xs.take i)) ∧ Keeps (fun i => i = w.heap.size + 1) W9 wr)) (fun u30 _ => xs.length - (intOf u30).toNat)
    case atStart => exact ⟨0, rfl, Nat.zero_le _, Lib.hid ⟨by rw [List.take_zero, List.append_nil]; exact HB9.out, Keeps.refl _ _⟩⟩
    case round =>
      obtain ⟨i, rfl, hi, HI⟩ := hrel
      rename World => wr
      by_cases hlt : i < xs.length
      · obtain ⟨x, hx⟩ : ∃ x, xs[i]? = some x := ⟨_, List.getElem?_eq_getElem hlt⟩
        have hxr := OwnS.keeps HX9.out HI.out.2 (fun i hi _ _ e => by omega)
        obtain ⟨a2, c2, hv2, hs2⟩ := OwnI.slat hxr
        injection hv2 with e1 e2 e3
        subst e1
        clear e2 e3
        obtain ⟨b, off, rfl, _, hc⟩ := itm_at hs2 hx
        obtain ⟨x0, x1, x2⟩ := hc wr (Keeps.refl _ _)
        have hst := lostS_take pf hx
        have hll := lostS_le _ (pf ++ xs.take i) rfl
        have hlo := lostI_le x
        have hxb : x.body.size ≤ 16777216 := by
          have := scan_body d.data.toList x (by rw [← HXS.out]; exact List.mem_of_getElem? hx)
          simpa using Nat.le_trans this (by simpa using hd)
        obtain ⟨xk, xt, xb⟩ := x
        simp only at x0 x1 x2 hxb
        have hl := fun W => rlost_any W ⟨xk, xt, xb⟩ (by simp only; omega)
        simp only [itmV] at hl
        obtain ⟨V, hV⟩ : ∃ V, V = lostI ⟨xk, xt, xb⟩ := ⟨_, rfl⟩
        obtain ⟨LS, hLS⟩ : ∃ LS, LS = lostS (pf ++ xs.take i) := ⟨_, rfl⟩
        have hbi := HI.out.1
        unfold logC at hbi
        rw [← hV] at hl hst hlo
        rw [← hLS] at hst hll hbi
        have hba := Blk.alloc hbi (.cells #[.int .i64 xk, .int .i64 xt, .string xb] 136)
        have c2 := hba.cell 2
        have f2 := hba.frozen 2
        simp only [List.getElem?_toArray, List.getElem?_cons_zero, List.getElem?_cons_succ] at c2
        have HL := Lib.hid hl
        have HST := Lib.hid hst
        have HBA := Lib.hid hba
        clear hl hst hbi hba hV hLS hc hs2 hxr hx
        gi_wp2_with fail
        gi_region_with_o (refine ⟨trivial, ?_⟩; gi_at_call 167; refine (CallsIn.inRound l (callsIn_wide.2 (HL.out _))).mono ?_; rintro e w3 ⟨rfl, k3⟩; have hb3 := Blk.keeps (HBA.out.drew) k3 id; have HB3 := Lib.hid hb3; have HK3 := Lib.hid k3; have c0 := hb3.cell 0; have c1 := hb3.cell 1; have c2 := hb3.cell 2; have f0 := hb3.frozen 0; have f1 := hb3.frozen 1; have f2 := hb3.frozen 2; simp only [List.getElem?_toArray, List.getElem?_cons_zero, List.getElem?_cons_succ] at c0 c1 c2; clear hb3 k3)
        all_goals (gi_wp2_with fail)
        all_goals
          refine ⟨⟨i + 1, by go_num, by omega, Lib.hid ⟨?_, HI.out.2.trans (((((Keeps.refl (fun i => i = w.heap.size + 1) wr).alloc _).drew.trans HK3.out.none_)).setCell (p := ⟨w.heap.size + 1, 2, none⟩) (fun _ => rfl) _)⟩⟩, by simp [intOf]; omega⟩
          have h9 := HB3.out.set_ 2 (.int .i64 (min 1099511627776 (LS + V)))
          unfold logC
          rw [HST.out]
          exact h9
      · have hh : xs.take i = xs := List.take_of_length_le (by omega)
        have HH := Lib.hid hh
        clear hh
        gi_wp2_with fail
        have hfl : (pre ++ [(⟨.slice a xs.length c, xs, torn⟩ : Ch)]).flatMap Ch.xs = pf ++ xs := by rw [List.flatMap_append, ← HPF.out]; simp
        have htn : tornS ((pre ++ [(⟨.slice a xs.length c, xs, torn⟩ : Ch)]).map Ch.torn) = T + torn := by rw [List.map_append, List.map_cons, List.map_nil, tornS_snoc, ← HTT.out]
        have kw : Keeps (fun _ => False) w W := HK0.out.and_ HT.out (fun j hj e => by have := e.1; rw [HSZ.out] at this; omega)
        have kw9 : Keeps (fun _ => False) w wr := ((kw.and_ HK7.out (fun j hj e => by have := (World.ownsRow.lt HOV.out j e).1; omega)).and_ HK9.out (fun j hj e => by omega)).and_ HI.out.2 (fun j hj e => by omega)
        refine ⟨((HK7.out.mono fun j _ e => ⟨_, .inl rfl, HOV.out.ownBlk j e⟩).trans (HK9.out.mono fun j _ e => by rw [e]; exact ⟨_, .inr rfl, _, HBO.out⟩)).trans (HI.out.2.mono fun j _ e => by rw [e]; exact ⟨_, .inr rfl, _, HBO.out⟩), ?_⟩
        unfold IL
        rw [hfl, htn]
        have hw7 := HBR.out.keeps HK7.out (fun e => by have := HNT.out _ _ _ e HBR.out; revert this; decide)
        refine ⟨⟨.slice a7 N7 c7, ?_, ?_⟩, (hw7.keeps HK9.out (fun e => by omega)).keeps HI.out.2 (fun e => by omega), kw9, ?_, ?_, ?_, ?_⟩
        · have := HI.out.1; rwa [HH.out] at this
        · refine OwnS.keeps (OwnS.keeps HO7.out HK9.out (fun j _ _ hb e => ?_)) HI.out.2 (fun j _ _ hb e => ?_)
          · obtain ⟨cs, hb⟩ := hb; subst e; have h7 := HB7.out; unfold Blk at hb h7; rw [hb] at h7; cases h7
          · obtain ⟨cs, hb⟩ := hb; subst e; have h7 := HB9.out; unfold Blk at hb h7; rw [hb] at h7; cases h7
        · have := HLN.out; rw [List.length_append, List.length_append, List.length_singleton]; omega
        · rw [List.length_append, List.length_singleton]; omega
        · omega
        · rw [List.length_append, List.length_singleton]; omega
  case done =>
    intro D xs W hD hS hI hW
    obtain ⟨⟨v, hbo, hov⟩, hbr, hk, -⟩ := hI
    have c0 := hbo.cell 0
    have c1 := hbo.cell 1
    have c2 := hbo.cell 2
    have d0 := hbr.cell 0
    have d1 := hbr.cell 1
    have d2 := hbr.cell 2
    have f0 := hbr.frozen 0
    have f1 := hbr.frozen 1
    have f2 := hbr.frozen 2
    obtain ⟨pf, hpf⟩ : ∃ pf, pf = xs.flatMap Ch.xs := ⟨_, rfl⟩
    obtain ⟨T, hT⟩ : ∃ T, T = tornS (xs.map Ch.torn) := ⟨_, rfl⟩
    rw [← hpf] at hov
    unfold logC at c0 c1 c2
    rw [← hpf, ← hT] at c0 c1 c2
    simp only [List.getElem?_toArray, List.getElem?_cons_zero, List.getElem?_cons_succ] at c0 c1 c2 d0 d1 d2
    obtain ⟨av, cv, rfl, -⟩ := OwnI.slat hov
    obtain ⟨N, hN⟩ : ∃ N, N = pf.length := ⟨_, rfl⟩
    rw [← hN] at hov c0
    have HOV := Lib.hid hov
    have HBR := Lib.hid hbr
    have HK := Lib.hid hk
    have HPF := Lib.hid hpf
    have HTT := Lib.hid hT
    have HS := Lib.hid hS
    have HDL := Lib.hid hW
    clear hov hbr hk hpf hT hN hS hW hbo
    gi_wp2_with fail
    have hD2 : w.heap.size < D := by rw [HSZ.out] at hD; omega
    have hdd : (((W.setCell ⟨w.heap.size, 0, none⟩ (.slice av N cv)).setCell ⟨w.heap.size, 1, none⟩ (.int .i64 T)).setCell ⟨w.heap.size, 2, none⟩ (.int .i64 (lostS pf))).heap[D]? = some (.deferred (some [])) := by
      rw [Below.heap_setCell _ _ _ _ (by simp; omega), Below.heap_setCell _ _ _ _ (by simp; omega), Below.heap_setCell _ _ _ _ (by simp; omega)]
      exact HDL.out
    refine ⟨by simp, .inl ⟨_, _, rfl, run_takeDeferred hdd, ?_⟩⟩
    obtain ⟨WF, hWF⟩ : ∃ WF, WF = ((((W.setCell ⟨w.heap.size, 0, none⟩ (.slice av N cv)).setCell ⟨w.heap.size, 1, none⟩ (.int .i64 T)).setCell ⟨w.heap.size, 2, none⟩ (.int .i64 (lostS pf))).putObj D (.deferred none)) := ⟨_, rfl⟩
    rw [← hWF]
    have kF : Keeps (fun i => i = w.heap.size ∨ i = D) W WF := by
      rw [hWF]
      exact ((((Keeps.refl (fun i => i = w.heap.size ∨ i = D) W).setCell (p := ⟨w.heap.size, 0, none⟩) (fun _ => .inl rfl) _).setCell (p := ⟨w.heap.size, 1, none⟩) (fun _ => .inl rfl) _).setCell (p := ⟨w.heap.size, 2, none⟩) (fun _ => .inl rfl) _).trans (keeps_put _ _ _ (.inr rfl))
    have hbF : Blk WF w.heap.size 212 #[.slice av N cv, .int .i64 T, .int .i64 (lostS pf)] := by
      rw [hWF]
      exact (((HBR.out.set_ 0 _).set_ 1 _).set_ 2 _).keeps (keeps_put (S := fun i => i = D) _ D _ rfl) (by omega)
    have e1 : pf = loadP ds := by
      rw [HPF.out]
      have := congrArg List.flatten HS.out.1
      rw [← List.flatMap_def, ← List.flatMap_def] at this
      exact this
    have e2 : T = tornS (ds.map tornI) := by rw [HTT.out, HS.out.2]
    have hlt := HBR.out.lt
    refine ⟨_, results_cell_row rfl _ WF w.heap.size 212 _ (0, 0) _ rfl hbF Tryz.underlying212 rfl (by kernel_rfl), ⟨.slice av N cv, by rw [e1, e2], ?_⟩, HK.out.and_ kF (fun j hj e => by omega)⟩
    rw [← e1]
    refine OwnS.keeps HOV.out kF (fun j _ _ hb e => ?_)
    obtain ⟨cs, hb⟩ := hb
    rcases e with e | e
    · subst e; have h7 := HBR.out; unfold Blk at hb h7; rw [hb] at h7; cases h7
    · subst e; have h7 := HDL.out; unfold Blk at hb; rw [hb] at h7; cases h7
end
end Go.Proofs.YtkmpdobojgiegaaGreatDoor
