/-
  store: a copy is a store by itself.
-/
import Derived.Test.YtgpfmkkkpdpdfaaDoorStoP
namespace Go.Proofs.YtgpfmkkkpdpdfaaDoor
open Go.RowKit Go.Maps

section
variable {w w' : World} {F S : Nat → Prop} {s M bad : Nat} {most : Int} {L : List SRep}
set_option maxRecDepth 100000 in
theorem copy_nil (w : World) : Calls Tryd.prog 38 #[.pointer none] w fun e w' => e = .returned (.pointer none) ∧ w' = w := by
  go_enter Tryd.func38, Tryd.ntmps38
  go_wp2_with (go_at_call 54; refine (made_nil _).mono ?_; rintro e w1 ⟨rfl, rfl⟩)
  go_ret
  exact ⟨rfl, rfl⟩
/-- one more file, of bytes that are its own -/
theorem StoreAt.adopt (h : StoreAt w F s most bad M L) (f : SFile) (v : Value) (hO : OwnQ w 5 v (u8Vs f.data.data.toList)) {B : Nat} (hB : ∀ r ∈ L, ∀ j, rowB r.v = some j → j < B) (hrow : ∀ i, rowB v = some i → F i ∧ B ≤ i) (hp : F w.heap.size) (hn : f.name.size ≤ maxLen) (hL : L.length ≤ 4294967296) (x : Int) (hx : x = f.sure) :
    ∃ w2, (Instr.mapUpdate 86 (.map (some M)) (.string f.name) (.pointer (some ⟨w.heap.size, 0, none⟩))).run Tryd.prog (w.alloc (.cells #[v, .int .i64 x] 91)) = .ok () w2 ∧
      StoreAt w2 F s most bad M (putG SRep.nm ⟨f, w.heap.size, v⟩ L) ∧ Keeps (fun i => i = M) (w.alloc (.cells #[v, .int .i64 x] 91)) w2 := by
  subst hx
  have k1 : Keeps (fun _ => False) w (w.alloc (.cells #[v, .int .i64 f.sure] 91)) := (Keeps.refl _ _).alloc _
  have h1 := h.keeps k1 (fun _ _ => id)
  have hap : ∀ a ∈ delG SRep.nm f.name L, Off ⟨f, w.heap.size, v⟩ a := fun a ha => by
    obtain ⟨ha, _⟩ := delG_mem.1 ha
    have hb := (h.each a ha).blk.lt
    refine ⟨fun e => ?_, fun i hi e => ?_⟩
    · have : w.heap.size = a.p := e
      omega
    · have h2 := (hrow i hi).2
      have h3 := hB a ha i e
      omega
  exact h1.put ⟨f, w.heap.size, v⟩ ⟨Blk.new w _ _, hO.keeps k1 (fun _ _ _ => id), hp, fun i hi => (hrow i hi).1⟩ hap hn (by unfold maxLen; omega)
theorem StoreAt.rowlt (h : StoreAt w F s most bad M L) : ∀ r ∈ L, ∀ i, rowB r.v = some i → i < w.heap.size := fun r hr i hi => by
  obtain ⟨cs, hb⟩ := (h.each r hr).own.row i hi
  exact hb.lt
theorem StoreAt.below_ (h : StoreAt w F s most bad M L) : StoreAt w (fun i => F i ∧ i < w.heap.size) s most bad M L := h.shrink.mono fun _ hi => ⟨hi.1, hi.2.lt⟩
theorem encStr_name (s : ByteArray) : Go.Proofs.encStr s.data.toList = .string s := rfl
theorem adopt_ {w w2 w3 : World} {s M bad : Nat} {most : Int} {L : List SRep} (h2 : StoreAt w2 (fun i => w.heap.size ≤ i ∧ i ≠ w.heap.size + 2) s most bad M L) (h : StoreAt w3 (fun i => w.heap.size ≤ i ∧ i ≠ w.heap.size + 2) s most bad M L) (kw : Keeps (fun _ => False) w2 w3) (hsz : w.heap.size + 3 ≤ w2.heap.size)
    (f : SFile) {v : Value} (hO : OwnQ w3 5 v (u8Vs f.data.data.toList)) {wc : World} (hrow : ∀ i, rowB v = some i → wc.heap.size ≤ i) (hwc : w2.heap.size ≤ wc.heap.size) (hn : f.name.size ≤ maxLen) (hL : L.length ≤ 4294967296) :
    ∃ w4, (Instr.mapUpdate 86 (.map (some M)) (.string f.name) (.pointer (some ⟨w3.heap.size, 0, none⟩))).run Tryd.prog (w3.alloc (.cells #[v, .int .i64 (f.sure : Nat)] 91)) = .ok () w4 ∧
      StoreAt w4 (fun i => w.heap.size ≤ i ∧ i ≠ w.heap.size + 2) s most bad M (putG SRep.nm ⟨f, w3.heap.size, v⟩ L) ∧ Keeps (fun i => i = M) (w3.alloc (.cells #[v, .int .i64 (f.sure : Nat)] 91)) w4 :=
  h.adopt f v hO (B := w2.heap.size) h2.rowlt (fun i hi => ⟨⟨by have := hrow i hi; omega, by have := hrow i hi; omega⟩, by have := hrow i hi; omega⟩) ⟨by have := kw.size; omega, by have := kw.size; omega⟩ hn hL _ rfl
theorem copy_end {w2 w3 w4 : World} {r0 n : Nat} {D : DataW Unit} {left : Lit → Bool} {cnt : Nat} (H : StoreAt w F s most bad M L) (hrg2 : w2.ranges Tryd.prog 9 ptrR M r0 n D left cnt) (HKK : Keeps (fun _ => False) w w2) (HKW : Keeps (fun _ => False) w2 w3) {o : Obj} (HK4 : Keeps (fun i => i = w.heap.size) (w3.alloc o) w4) (e0 : r0 = w.heap.size + 2) (hsz : w.heap.size + 3 ≤ w2.heap.size) :
    w4.ranges Tryd.prog 9 ptrR M r0 n D left cnt ∧ Keeps (fun _ => False) w w4 ∧ w.heap.size + 3 ≤ w4.heap.size := by
  have hM := H.map.lt
  have k3 : Keeps (fun _ => False) w2 (w3.alloc o) := HKW.alloc _
  have k4 : Keeps (fun i => i = w.heap.size) w2 w4 := Keeps.and_ k3.none_ HK4 (fun i _ h => h)
  refine ⟨ranges_keeps hrg2 k4 (by omega) (by omega), Keeps.and_ HKK k4 (fun i hi h => by omega), ?_⟩
  have := k4.size
  omega
set_option maxRecDepth 100000 in
set_option maxHeartbeats 1000000 in
theorem copy_any (h : StoreAt w F s most bad M L) (hL : L.length ≤ 4294967295) (hz : ∀ r ∈ L, r.f.data.size ≤ 4294967296 ∧ r.f.name.size ≤ maxLen) :
    Calls Tryd.prog 38 #[.pointer (some ⟨s, 0, none⟩)] w fun e w' => (∃ s2 M2 L2, e = .returned (.pointer (some ⟨s2, 0, none⟩)) ∧ StoreAt w' (fun i => w.heap.size ≤ i) s2 most bad M2 L2 ∧ L2.map SRep.f = L.map SRep.f) ∧ Keeps (fun _ => False) w w' := by
  have HM := Lib.hid (made_any h)
  have H := Lib.hid h
  obtain ⟨h0, h1, h2⟩ := h.top.cells3
  have HZ := Lib.hid hz
  obtain ⟨p0, p1, p2⟩ := (h.top.alloc (.map #[] 0)).cells3
  obtain ⟨q0, -, -⟩ := ((h.top.alloc (.map #[] 0)).alloc (.cells #[.map (some w.heap.size), .int .i64 most, .int .i64 bad] 88)).cells3
  have hmm := @run_makeMap Tryd.prog
  have hemp := (StoreAt.empty w most bad).below_
  have hsz2 : ((w.alloc (.map #[] 0)).alloc (.cells #[.map (some w.heap.size), .int .i64 most, .int .i64 bad] 88)).heap.size = w.heap.size + 2 := by simp
  have hemp2 : StoreAt ((w.alloc (.map #[] 0)).alloc (.cells #[.map (some w.heap.size), .int .i64 most, .int .i64 bad] 88)) (fun i => w.heap.size ≤ i ∧ i ≠ w.heap.size + 2) (w.heap.size + 1) most bad w.heap.size [] := hemp.mono fun i hi => ⟨hi.1, by have := hi.2; omega⟩
  have HE := Lib.hid hemp2
  have HS2 := Lib.hid hsz2
  clear h hz hemp hemp2 hsz2
  go_enter Tryd.func38, Tryd.ntmps38
  go_wp2_with (go_at_call 54; refine HM.out.mono ?_; rintro e w1 ⟨rfl, hw1⟩; obtain rfl : w = w1 := hw1.symm)
  go_region
  go_wp2_with (at_range; refine wpList_range_own _ rfl _ 86 rfl 9 84 stoK Tryd.underlying86 _ M L.length _ rfl (World.ownsMap.drew (((H.out.map).alloc _).alloc _)) ?_; intro w0 hrg0 hg0 hs0)
  go_frame
  obtain ⟨r0, hr0⟩ : ∃ r0, r0 = ((w.alloc (.map #[] 0)).alloc (.cells #[.map (some w.heap.size), .int .i64 most, .int .i64 bad] 88)).drew.heap.size := ⟨_, rfl⟩
  rw [← hr0] at hrg0 hs0 ⊢
  have e0 : r0 = w.heap.size + 2 := hr0.trans HS2.out
  have HR0 := Lib.hid e0
  have HS0 := Lib.hid hs0
  have k0 : Keeps (fun _ => False) ((w.alloc (.map #[] 0)).alloc (.cells #[.map (some w.heap.size), .int .i64 most, .int .i64 bad] 88)) w0 := Keeps.from_drew ((Keeps.refl _ _).grown hg0 (fun k hk => by cases hk))
  have K0 := Lib.hid k0
  clear hr0 e0 hs0 k0 hg0 p0 p1 p2 q0 hmm
  go_loopw [4] (fun _ wr => ∃ (left : Lit → Bool) (cnt : Nat), wr.ranges Tryd.prog 9 ptrR M r0 L.length (mapD SRep.nm SRep.p L) left cnt ∧ Hid (∃ Lc, StoreAt wr (fun i => w.heap.size ≤ i ∧ i ≠ w.heap.size + 2) (w.heap.size + 1) most bad w.heap.size Lc ∧ Lc.map SRep.f = (L.map SRep.f).filter (fun x => !left (.string x.name.data.toList)) ∧ Keeps (fun _ => False) w wr ∧ w.heap.size + 3 ≤ wr.heap.size)) (fun _ wr => wr.rangeLeft M r0)
  case atStart => exact ⟨_, _, hrg0, Lib.hid ⟨[], HE.out.keeps K0.out (fun _ _ => id), (filt_start H.out.rise).symm, (((Keeps.refl _ _).alloc _).alloc _).trans K0.out, by have := HS0.out; have := HR0.out; omega⟩⟩
  case round =>
    obtain ⟨left, cnt, hrg, HK⟩ := hrel
    go_wp2_with (at_next; refine wpList_next_ranges _ rfl _ rfl 9 stoK ptrR Go.Proofs.encStr id (fun key kl hk => by obtain ⟨x, hx, _⟩ := Maps.keyOf_str Tryd.underlying9 hk; exact ⟨x, hx⟩) (fun v _ _ => ⟨v, rfl⟩) M r0 L.length _ left cnt rfl hrg ?_ ?_)
    · intro hc0 hl0
      obtain ⟨Lc, hs, hl, kk, hsz⟩ := HK.out
      have he : (L.map SRep.f).filter (fun x => !left (.string x.name.data.toList)) = L.map SRep.f := List.filter_eq_self.2 fun x _ => by rw [hl0]; rfl
      rw [he] at hl
      have HS := Lib.hid hs
      have HL := Lib.hid hl
      clear hs hl he
      go_wp2_with fail
      go_ret
      exact ⟨⟨_, _, Lc, rfl, HS.out.mono fun _ h => h.1, HL.out⟩, kk⟩
    · intro x c kl yd yp w2 cnt2 hkey hlk hv hat hrg2 hlt hg2 hs2 hen
      obtain ⟨x', ex, rfl, _⟩ := Maps.keyOf_str Tryd.underlying9 hkey
      obtain rfl : x = x' := encStr_inj ex
      obtain ⟨r, hr, rfl, rfl⟩ := step_rep hv hat
      rw [encStr_name] at hen ⊢
      obtain ⟨Lc, hs, hl, kk, hsz⟩ := HK.out
      have k2 : Keeps (fun i => i = r0) wr w2 := Keeps.grown (Keeps.refl (fun i => i = r0) wr) hg2 (fun k hk _ => by injection hk with hk; exact hk.symm)
      have kk2 : Keeps (fun _ => False) w w2 := kk.and_ k2 (fun i hi h => by have := HR0.out; omega)
      have hst2 := hs.keeps k2 (fun i hi e => hi.2 (e.trans HR0.out))
      obtain ⟨m0, m1, m2⟩ := hst2.top.cells3
      have hf := (H.out.keeps kk2 (fun _ _ => id)).each r hr
      obtain ⟨z1, z2⟩ := HZ.out r hr
      obtain ⟨ra, rc, hv2⟩ := hf.own.sl
      rw [u8Vs_size] at hv2
      have f0 := hf.blk.cell 0
      have f1 := hf.blk.cell 1
      simp only [List.getElem?_toArray, List.getElem?_cons_zero, List.getElem?_cons_succ] at f0 f1
      rw [hv2] at f0
      have hown := hf.own
      rw [hv2] at hown
      have hfs := filt_step (rise_map (f := SRep.f) nm_f |>.2 H.out.rise) (List.mem_map.2 ⟨r, hr, rfl⟩) hlk
      rw [← hl] at hfs
      have hLc : Lc.length ≤ 4294967296 := by
        have := congrArg List.length hl
        rw [List.length_map] at this
        have h3 : ((L.map SRep.f).filter fun x => !left (.string x.name.data.toList)).length ≤ (L.map SRep.f).length := List.length_filter_le _ _
        rw [List.length_map] at h3
        omega
      have hcl : ∀ W, Keeps (fun _ => False) w2 W → Calls Tryd.prog 75 #[.slice ra r.f.data.size rc] W fun e w' => (∃ a c, e = .returned (.slice a r.f.data.size c) ∧ OwnQ w' 5 (.slice a r.f.data.size c) (u8Vs r.f.data.data.toList) ∧ ∀ i, rowB (.slice a r.f.data.size c) = some i → W.heap.size ≤ i) ∧ Keeps (fun _ => False) W w' := fun W kW => by
        have := clone_any W _ _ (OwnQ.keeps (S := fun _ => False) hown kW (fun _ _ _ => id)) (by rw [u8Vs_size]; omega)
        rwa [u8Vs_size] at this
      obtain ⟨sz, hsz3⟩ : ∃ sz, sz = r.f.data.size := ⟨_, rfl⟩
      rw [← hsz3] at hcl f0
      have HCL := Lib.hid hcl
      have HST := Lib.hid hst2
      have HFS := Lib.hid hfs
      have HKK := Lib.hid kk2
      have HLT := Lib.hid hlt
      have HSZ : Hid (w.heap.size + 3 ≤ w2.heap.size) := Lib.hid (by omega)
      clear hs hl kk hsz k2 kk2 hst2 hf hv2 hown hcl hsz3 hfs hg2 hs2 hat hv hlt hkey ex hr
      go_wp2_with fail
      go_region_with (go_at_call 75; go_must (refine (HCL.out _ (by (repeat (first | (with_reducible assumption) | (with_reducible exact Keeps.refl _ _) | refine Keeps.drew ?_ | refine Keeps.drewN ?_ _ | refine Keeps.setCell ?_ (by simp) _ | refine Keeps.setRow ?_ (by simp) _ | refine Keeps.alloc ?_ _)))).mono ?_; rintro e w3 ⟨⟨ca, cc, rfl, hO', hR'⟩, k3⟩; have kw : Keeps (fun _ => False) w2 w3 := Keeps.trans (by (repeat (first | (with_reducible assumption) | (with_reducible exact Keeps.refl _ _) | refine Keeps.drew ?_ | refine Keeps.drewN ?_ _ | refine Keeps.setCell ?_ (by simp) _ | refine Keeps.setRow ?_ (by simp) _ | refine Keeps.alloc ?_ _))) k3; have g1 : w3.cell? ⟨r.p, 1, none⟩ = some (.int .i64 (r.f.sure : Nat)) := (World.cell?_of_block (w := w2) (kw.block r.p (block_lt_of_cell f1) id)).trans f1; have hs3 := HST.out.keeps kw (fun _ _ => id); obtain ⟨n0, n1, n2⟩ := hs3.top.cells3; obtain ⟨l0, l1, l2⟩ := (hs3.top.alloc (.cells #[.slice ca sz cc, .int .i64 (r.f.sure : Nat)] 91)).cells3; clear n1 n2 l1 l2; have HS3 := Lib.hid hs3; have HKW := Lib.hid kw; have HO' := Lib.hid hO'; have HR' := Lib.hid hR'; obtain ⟨w4, hrun, hs4, k4⟩ := adopt_ HST.out HS3.out HKW.out HSZ.out r.f HO'.out HR'.out (Nat.le_refl w2.heap.size) z2 hLc; have HS4 := Lib.hid hs4; have HK4 := Lib.hid k4; clear hs3 kw hO' hR' hs4 k4 k3))
      all_goals go_wp2_with fail
      all_goals (
        obtain ⟨t1, t2, t3⟩ := copy_end H.out hrg2 HKK.out HKW.out HK4.out HR0.out HSZ.out
        exact ⟨⟨_, cnt2, t1, Lib.hid ⟨_, HS4.out, (putG_map nm_f _ _).trans HFS.out, t2, t3⟩⟩, by rw [t1.left_eq, hrg.left_eq]; exact HLT.out⟩)
end
end Go.Proofs.YtgpfmkkkpdpdfaaDoor
