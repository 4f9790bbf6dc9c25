/-
  Lower texts of this claim, joined.
-/
import Derived.Test.YtkmpdobojgiegaaGreatDoorQGround4
import Derived.Test.YtkmpdobojgiegaaGreatDoorQGround1
import Derived.Test.YtkmpdobojgiegaaGreatDoorQGround3
import Derived.ScopeJumps
import Derived.WalkMore
/-
  console: Came.
-/
namespace Go.Proofs.YtkmpdobojgiegaaGreatDoor
open Go.RowKit

def szV : Value → Nat
  | .string s => s.size
  | _ => 0
/-- behind what a line told -/
def cameC (mst : Int) (now : Int) (bad : Nat) (l : List SFile) (x : Cns) (s : List UInt8) : Cns × Jp × Bool :=
  if x.m.st < 3 ∨ s = [] then (x, ⟨bad, l, x.rest, x.lost⟩, false)
  else ({ x with past := x.past ++ s, rest := (putsJ mst (baseOf x.c) x.c.gens.toNat x.c.size.toNat now ⟨bad, l, x.rest, x.lost⟩ (chunksOf s)).rest, lost := (putsJ mst (baseOf x.c) x.c.gens.toNat x.c.size.toNat now ⟨bad, l, x.rest, x.lost⟩ (chunksOf s)).lost }, putsJ mst (baseOf x.c) x.c.gens.toNat x.c.size.toNat now ⟨bad, l, x.rest, x.lost⟩ (chunksOf s), true)
theorem ext_min2 (t : ByteArray) : t.extract 4096 t.size = t.extract (min (t.size : Int) 4096).toNat t.size := by
  have h : t.data.toList.length = t.size := by simp
  apply ba_ext
  rw [ext_list, ext_list]
  by_cases hb : t.size ≤ 4096
  · rw [show (min (t.size : Int) 4096).toNat = t.size by omega, List.drop_of_length_le (by omega), List.drop_of_length_le (by omega)]
  · rw [show (min (t.size : Int) 4096).toNat = 4096 by omega]
section
variable {w0 w w' w1 : World} {F G S FT : Nat → Prop} {tag : Nat → Nat} {xb st lb sb pb g b jb n : Nat} {x : Cns} {most : Int} {bad : Nat} {l : List SFile}
theorem StoF.mono (h : StoF w0 w F st most bad l n) (hG : ∀ i, F i → G i) (hb : ∀ i, G i → w0.heap.size ≤ i ∧ i < w.heap.size) : StoF w0 w G st most bad l n := by
  obtain ⟨M, L, hL, hF, ⟨ety, keeps, store, res, fit, len, hn, hbd, m1, m2⟩⟩ := h
  exact ⟨M, L, hL, hb, @Sto.mk (resF w G) _ _ _ _ _ _ _ _ ety keeps (store.below_.mono fun i hi => ⟨hi.1.1, fun e => e.2 (hG i (by
    by_cases h2 : F i
    · exact h2
    · exact absurd ⟨hi.2, h2⟩ hi.1.2))⟩) (fun i hi => hi.1) fit len hn hbd m1 m2⟩
theorem StoF.ext (h : StoF w0 w' (Ext (Ext F w1 w) w w') st most bad l n) (h1 : w1.heap.size ≤ w.heap.size) (h2 : w.heap.size ≤ w'.heap.size) (h0 : w0.heap.size ≤ w1.heap.size) (hF : ∀ i, F i → w0.heap.size ≤ i ∧ i < w1.heap.size) : StoF w0 w' (Ext F w1 w') st most bad l n :=
  h.mono (fun i hi => hi.twice h1 h2) (fun i hi => hi.elim (fun e => ⟨(hF i e).1, by have := (hF i e).2; omega⟩) (fun e => ⟨by omega, e.2⟩))
theorem LogF.ext {jp : Jp} {base : ByteArray} {k size : Nat} (h : LogF w0 w' (Ext (Ext F w1 w) w w') st jb most base k size jp n) (h1 : w1.heap.size ≤ w.heap.size) (h2 : w.heap.size ≤ w'.heap.size) (h0 : w0.heap.size ≤ w1.heap.size) (hF : ∀ i, F i → w0.heap.size ≤ i ∧ i < w1.heap.size) : LogF w0 w' (Ext F w1 w') st jb most base k size jp n := ⟨h.1.ext h1 h2 h0 hF, h.2⟩
theorem LogF.same {jp : Jp} {base : ByteArray} {k size : Nat} (h : LogF w0 w F st jb most base k size jp n) (kk : Keeps (fun _ => False) w w') : LogF w0 w' F st jb most base k size jp n := ⟨h.1.keeps kk (fun _ _ h => h) (fun _ _ h => h), h.2.1.keeps kk (fun h => h), h.2.2⟩
/-- in the midst of writing down: what is left, the log so far -/
def CameI (w0 w1 : World) (FT : Nat → Prop) (st jb n : Nat) (most : Int) (base : ByteArray) (k size : Nat) (now : Int) (P : Nat) (T : Jp) (r : List UInt8) (wr : World) : Prop :=
  ∃ (f p : Nat) (j : Jp), r.length ≤ f ∧ putsJ most base k size now j (chunks f r) = T ∧ LogF w0 wr (Ext FT w1 wr) st jb most base k size j (n + 19 * p) ∧ Keeps (fun i => FT i ∨ i = jb) w1 wr ∧ p + (chunks f r).length = P ∧ j.lost + (chunks f r).length ≤ 1000000
set_option maxRecDepth 100000 in
set_option maxHeartbeats 400000 in
theorem ccame (h : ConsV w F tag xb st x lb sb pb g b jb) (hS : StoF w0 w FT st most bad l n) (hap : Apart F FT) (hlo : ∀ i, F i → w0.heap.size ≤ i) (hbn : (baseOf x.c).size ≤ 64) (now : Int) (hnow : 0 ≤ now ∧ now ≤ 1099511627776) (s : List UInt8) (hs : s.length ≤ 1048576)
    (hn : n + 19 * (chunksOf s).length ≤ 999000) (hll : x.lost + (chunksOf s).length ≤ 1000000) (hA : x.past.length + s.length ≤ 2305843009213693952) :
    Calls Tryz.prog 15 #[.pointer (some ⟨xb, 0, none⟩), .int .i64 now, .string (str s)] w fun e w' =>
    e = .returned (.bool (cameC most now bad l x s).2.2) ∧ ConsV w' F tag xb st (cameC most now bad l x s).1 lb sb pb g b jb ∧
    StoF w0 w' (Ext FT w w') st most (cameC most now bad l x s).2.1.bad (cameC most now bad l x s).2.1.l (n + 19 * (chunksOf s).length) ∧ Keeps (fun i => FT i ∨ F i) w w' := by
  have HV := Lib.hid h
  have HM := Lib.hid (cmade h)
  have HST := Lib.hid (lstate h.line)
  have HAP := Lib.hid hap
  have HLO := Lib.hid hlo
  obtain ⟨c0, c1, c2, c3, c4⟩ := h.cells
  obtain ⟨T, hT⟩ : ∃ T, T = cameC most now bad l x s := ⟨_, rfl⟩
  rw [← hT]
  have HT := Lib.hid (show T = if x.m.st < 3 ∨ s = [] then (x, ⟨bad, l, x.rest, x.lost⟩, false) else ({ x with past := x.past ++ s, rest := (putsJ most (baseOf x.c) x.c.gens.toNat x.c.size.toNat now ⟨bad, l, x.rest, x.lost⟩ (chunksOf s)).rest, lost := (putsJ most (baseOf x.c) x.c.gens.toNat x.c.size.toNat now ⟨bad, l, x.rest, x.lost⟩ (chunksOf s)).lost }, putsJ most (baseOf x.c) x.c.gens.toNat x.c.size.toNat now ⟨bad, l, x.rest, x.lost⟩ (chunksOf s), true) from hT)
  have HSS := Lib.hid (show StoF w0 w (Ext FT w w) st most bad l (n + 19 * (chunksOf s).length) from (hS.mono (fun i hi => .inl hi) (fun i hi => hi.elim (fun e => ⟨hS.lo i e, hS.inn i e⟩) (fun e => by omega))).le_n (by omega) (by omega))
  clear hT
  by_cases h3 : x.m.st < 3
  · have HTT : Hid (T = (x, ⟨bad, l, x.rest, x.lost⟩, false)) := Lib.hid (by rw [HT.out, if_pos (.inl h3)])
    obtain ⟨sst, hst⟩ : ∃ sst, sst = x.m.st := ⟨_, rfl⟩
    rw [← hst] at HST h3
    clear h hS hap hlo hn hll hA hst hbn hnow
    go_enter Tryz.func15, Tryz.ntmps15
    go_wp2_with fail
    refine HM.out.mono ?_
    rintro e w2 ⟨rfl, hw⟩
    obtain rfl : w = w2 := hw.symm
    go_wp2_with fail
    refine HST.out.mono ?_
    rintro e w2 ⟨rfl, hw⟩
    obtain rfl : w = w2 := hw.symm
    go_wp2_with fail
    go_ret
    rw [HTT.out]
    exact ⟨rfl, HV.out, HSS.out, Keeps.refl _ _⟩
  · by_cases hse : s = []
    · have HTT : Hid (T = (x, ⟨bad, l, x.rest, x.lost⟩, false)) := Lib.hid (by rw [HT.out, if_pos (.inr hse)])
      obtain ⟨sst, hst⟩ : ∃ sst, sst = x.m.st := ⟨_, rfl⟩
      rw [← hst] at HST h3
      have he : (str s).toList.isEmpty = true := by rw [str_emp]; simp [hse]
      clear h hS hap hlo hn hll hA hst hbn hnow hse
      go_enter Tryz.func15, Tryz.ntmps15
      go_wp2_with fail
      refine HM.out.mono ?_
      rintro e w2 ⟨rfl, hw⟩
      obtain rfl : w = w2 := hw.symm
      go_wp2_with fail
      refine HST.out.mono ?_
      rintro e w2 ⟨rfl, hw⟩
      obtain rfl : w = w2 := hw.symm
      go_wp2_with fail
      go_ret
      rw [HTT.out]
      exact ⟨rfl, HV.out, HSS.out, Keeps.refl _ _⟩
    · have hTT : T = ({ x with past := x.past ++ s, rest := (putsJ most (baseOf x.c) x.c.gens.toNat x.c.size.toNat now ⟨bad, l, x.rest, x.lost⟩ (chunksOf s)).rest, lost := (putsJ most (baseOf x.c) x.c.gens.toNat x.c.size.toNat now ⟨bad, l, x.rest, x.lost⟩ (chunksOf s)).lost }, putsJ most (baseOf x.c) x.c.gens.toNat x.c.size.toNat now ⟨bad, l, x.rest, x.lost⟩ (chunksOf s), true) := by rw [HT.out, if_neg (fun e => e.elim h3 hse)]
      obtain ⟨J, hJ⟩ : ∃ J, J = putsJ most (baseOf x.c) x.c.gens.toNat x.c.size.toNat now ⟨bad, l, x.rest, x.lost⟩ (chunksOf s) := ⟨_, rfl⟩
      rw [← hJ] at hTT
      have HTT := Lib.hid hTT
      have HJ := Lib.hid hJ
      obtain ⟨sst, hst⟩ : ∃ sst, sst = x.m.st := ⟨_, rfl⟩
      rw [← hst] at HST h3
      have he : (str s).toList.isEmpty = false := by rw [str_emp]; simp [hse]
      have HP := Lib.hid (padd_any w pb g b 32768 x.past (str s) h.past (by rw [str_size]; unfold maxLen; omega) (by rw [str_size]; exact hA))
      have HS0 := Lib.hid hS
      have HN := Lib.hid hn
      have HLL := Lib.hid hll
      have HBN := Lib.hid hbn
      have HNOW := Lib.hid hnow
      have HSL := Lib.hid hs
      clear h hS hap hlo hn hll hA hst hbn hnow hse hTT hJ hs
      go_enter Tryz.func15, Tryz.ntmps15
      go_wp2_with fail
      refine HM.out.mono ?_
      rintro e w2 ⟨rfl, hw⟩
      obtain rfl : w = w2 := hw.symm
      go_wp2_with fail
      refine HST.out.mono ?_
      rintro e w2 ⟨rfl, hw⟩
      obtain rfl : w = w2 := hw.symm
      go_wp2_with fail
      refine HP.out.mono ?_
      rintro e w1 ⟨rfl, k1, hp1⟩
      have hV1 := HV.out.told hp1 k1
      have kF1 : Keeps F w w1 := k1.mono fun i _ e => by rcases e with rfl | rfl | rfl; exact HV.out.pp.1.1; exact HV.out.pp.2.1.1; exact HV.out.pp.2.2.1
      have hS1 := HS0.out.keeps kF1 (fun i hi e => HAP.out i e hi) (fun i hi e => by have := HLO.out i e; omega)
      have hL1 : LogF w0 w1 (Ext FT w1 w1) st jb most (baseOf x.c) x.c.gens.toNat x.c.size.toNat ⟨bad, l, x.rest, x.lost⟩ (n + 19 * 0) := ⟨hS1.mono (fun i hi => .inl hi) (fun i hi => hi.elim (fun e => ⟨hS1.lo i e, hS1.inn i e⟩) (fun e => by omega)), hV1.log, HLO.out _ HV.out.pj.1⟩
      obtain ⟨-, -, -, -, d4⟩ := hV1.cells
      have HI1 := Lib.hid (show CameI w0 w1 FT st jb n most (baseOf x.c) x.c.gens.toNat x.c.size.toNat now (chunksOf s).length J s w1 from ⟨s.length, 0, _, Nat.le_refl _, HJ.out.symm, hL1, Keeps.refl _ _, Nat.zero_add _, HLL.out⟩)
      have HV1 := Lib.hid hV1
      have HK1 := Lib.hid kF1
      have HS1 := Lib.hid hS1
      clear k1 hp1 kF1 hL1 c0 c1 c2 c3 c4 hV1 hS1
      go_wp2_with fail
      go_loopw [2] (fun u2 wr => ∃ r : List UInt8, u2 = .string (str r) ∧ Hid (r.length ≤ 1048576 ∧ CameI w0 w1 FT st jb n most (baseOf x.c) x.c.gens.toNat x.c.size.toNat now (chunksOf s).length J r wr)) (fun u2 _ => szV u2)
      case atStart => exact ⟨s, rfl, Lib.hid ⟨HSL.out, HI1.out⟩⟩
      case round =>
        obtain ⟨r, rfl, HI⟩ := hrel
        have hrl := HI.out.1
        by_cases hr : r = []
        · have he2 : (str r).toList.isEmpty = true := by rw [str_emp]; simp [hr]
          have HR := Lib.hid hr
          clear hr
          go_wp2_with fail
          go_ret
          rw [HTT.out]
          obtain ⟨f, p, j, h1, h2, h3, h4, h5, h6⟩ := HI.out.2
          have hc : chunks f r = [] := by rw [HR.out]; cases f <;> rfl
          rw [hc] at h2 h5
          have h2 : j = J := h2
          subst h2
          have hp : p = (chunksOf s).length := h5
          rw [hp] at h3
          have hsz := HK1.out.size
          refine ⟨rfl, HV1.out.logged h3.2.1 h4 HAP.out, (h3.1.mono (fun i hi => hi.imp id (fun e => ⟨by omega, e.2⟩)) (fun i hi => hi.elim (fun e => ⟨HS0.out.lo i e, by have := HS0.out.inn i e; have := h4.size; omega⟩) (fun e => ⟨by have := HS0.out.from_.size; omega, e.2⟩))), (HK1.out.mono (T := fun i => FT i ∨ F i) (fun i _ e => .inr e)).trans (h4.mono fun i _ e => e.imp id (fun e => by rw [e]; exact HV.out.pj.1))⟩
        · have he2 : (str r).toList.isEmpty = false := by rw [str_emp]; simp [hr]
          obtain ⟨f, p, j, h1, h2, h3, h4, h5, h6⟩ := HI.out.2
          obtain ⟨f', rfl⟩ : ∃ f', f = f' + 1 := by
            cases f with
            | zero => exact absurd (List.eq_nil_of_length_eq_zero (by omega)) hr
            | succ f' => exact ⟨f', rfl⟩
          have hck : chunks (f' + 1) r = r.take 4096 :: chunks f' (r.drop 4096) := by rw [chunks, if_neg hr]
          have hrp : 0 < r.length := List.length_pos_iff.2 hr
          rw [hck, List.length_cons] at h5 h6
          rw [hck] at h2
          have hVr := HV1.out.logged h3.2.1 h4 HAP.out
          obtain ⟨-, -, -, -, dr⟩ := hVr.cells
          have hJ := fun W (k : Keeps (fun _ => False) wr W) => jaddF (h3.same k) (by have := HN.out; omega) HBN.out (by omega) ⟨1, now, str (r.take 4096)⟩ (dataI_ok HNOW.out (by rw [List.length_take]; omega))
          obtain ⟨R, hR⟩ : ∃ R, R = addJ most (baseOf x.c) x.c.gens.toNat x.c.size.toNat j ⟨1, now, str (r.take 4096)⟩ := ⟨_, rfl⟩
          have hnext : R.1.lost ≤ j.lost + 1 := by rw [hR]; exact add_lost _ _ _ _ _ _
          have h2 : putsJ most (baseOf x.c) x.c.gens.toNat x.c.size.toNat now R.1 (chunks f' (r.drop 4096)) = J := by rw [hR]; exact h2
          rw [← hR] at hJ
          unfold itmV at hJ
          simp only at hJ
          have hdl : (r.drop 4096).length ≤ f' := by rw [List.length_drop]; omega
          have hdl2 : (r.drop 4096).length ≤ 1048576 := by rw [List.length_drop]; omega
          have hx1 := (strx_take r 4096).symm.trans (ext_min (str r))
          have hx2 := (strx_drop r 4096).symm.trans (ext_min2 (str r))
          have hlt : szV (.string (str (r.drop 4096))) < szV (.string (str r)) := by show (str (r.drop 4096)).size < (str r).size; rw [str_size, str_size, List.length_drop]; omega
          rw [hx2] at hlt
          rw [hx1] at hJ
          have hzz : (str r).size ≤ 1048576 := by rw [str_size]; exact hrl
          have HX2 := Lib.hid hx2
          have HJ2 := Lib.hid hJ
          have HLT := Lib.hid hlt
          have HC2 := Lib.hid (And.intro hdl (And.intro hdl2 (And.intro h2 (And.intro h5 (And.intro h6 hnext)))))
          have HVR := Lib.hid hVr
          have HH := Lib.hid (And.intro h3 h4)
          have HW1 := Lib.hid (show w0.heap.size ≤ w1.heap.size ∧ ∀ i, FT i → w0.heap.size ≤ i ∧ i < w1.heap.size from ⟨HS1.out.from_.size, fun i hi => ⟨HS1.out.lo i hi, HS1.out.inn i hi⟩⟩)
          clear hR hck hrp h1 h2 h3 h4 h5 h6 hVr hJ hnext hdl hdl2 hx1 hx2 hlt HI hr d4 hrl
          obtain ⟨t, ht⟩ : ∃ t, t = str r := ⟨_, rfl⟩
          rw [← ht] at he2 HX2 HJ2 HLT hzz ⊢
          clear ht
          have hm1 : (0 : Int) ≤ min (t.size : Int) 4096 := by omega
          have hm2 : min (t.size : Int) 4096 ≤ (t.size : Int) := by omega
          go_wp2_with fail
          go_region_held3 (fun w2 => w2.cell? ⟨xb, 13, none⟩ = some (.pointer (some ⟨jb, 0, none⟩)))
            ((first | exact dr | exact d4))
            ((go_at_call 64; refine (HJ2.out _ (by (repeat (first | (with_reducible assumption) | (with_reducible exact Keeps.refl _ _) | refine Keeps.drew ?_ | refine Keeps.drewN ?_ _ | refine Keeps.setCell ?_ (by simp) _ | refine Keeps.setRow ?_ (by simp) _ | refine Keeps.alloc ?_ _)))).mono ?_; rintro e w3 ⟨rfl, hL3, k3⟩; have k3 := k3.from_drew; have kj : Keeps (fun i => Ext FT w1 wr i ∨ i = jb) wr w3 := k3; have k13 : Keeps (fun i => FT i ∨ i = jb) w1 w3 := (HH.out.2).and_ kj (fun i hi e => e.elim (fun e => e.elim .inl (fun e => by omega)) .inr); have hV3 := HV1.out.logged hL3.2.1 k13 HAP.out; have d4 := hV3.cells.2.2.2.2; have HL3 := Lib.hid hL3; have HK3 := Lib.hid k3; have HK13 := Lib.hid k13; clear hL3 k3 kj k13 hV3))
          go_wp2_with fail
          obtain ⟨e1, e2, e3, e4, e5, e6⟩ := HC2.out
          have hlog := LogF.ext HL3.out HH.out.2.size HK3.out.size HW1.out.1 HW1.out.2
          rw [show n + 19 * p + 19 = n + 19 * (p + 1) by omega] at hlog
          exact ⟨⟨r.drop 4096, by rw [HX2.out], Lib.hid ⟨e2, f', p + 1, R.1, e1, e3, hlog, HK13.out, by omega, by omega⟩⟩, HLT.out⟩
end
end Go.Proofs.YtkmpdobojgiegaaGreatDoor

/-
  console: the steps of New.
-/
namespace Go.Proofs.YtkmpdobojgiegaaGreatDoor
open Go.RowKit

/-- two blocks are written, in either order -/
theorem Blk.two {w : World} {g e : Nat} {t t' : TypeId} {cs ds : Array Value} (h : Blk w g t cs) (h' : Blk w e t' ds) (hne : t ≠ t') (i j : Nat) (u v : Value) :
    (Blk ((w.setCell ⟨g, i, none⟩ u).setCell ⟨e, j, none⟩ v) g t (cs.setIfInBounds i u) ∧ Blk ((w.setCell ⟨g, i, none⟩ u).setCell ⟨e, j, none⟩ v) e t' (ds.setIfInBounds j v) ∧ Keeps (fun k => k = g ∨ k = e) w ((w.setCell ⟨g, i, none⟩ u).setCell ⟨e, j, none⟩ v)) ∧
    (Blk ((w.setCell ⟨e, j, none⟩ v).setCell ⟨g, i, none⟩ u) g t (cs.setIfInBounds i u) ∧ Blk ((w.setCell ⟨e, j, none⟩ v).setCell ⟨g, i, none⟩ u) e t' (ds.setIfInBounds j v) ∧ Keeps (fun k => k = g ∨ k = e) w ((w.setCell ⟨e, j, none⟩ v).setCell ⟨g, i, none⟩ u)) := by
  have hn : g ≠ e := Blk.ne_ h h' hne
  refine ⟨⟨(h.set_ i u).far (by exact hn) v, (h'.far (by exact hn.symm) u).set_ j v, ?_⟩, ⟨(h.far (by exact hn) v).set_ i u, (h'.set_ j v).far (by exact hn.symm) u, ?_⟩⟩
  · exact ((Keeps.refl (fun k => k = g ∨ k = e) w).setCell (p := ⟨g, i, none⟩) (fun _ => .inl rfl) u).setCell (p := ⟨e, j, none⟩) (fun _ => .inr rfl) v
  · exact ((Keeps.refl (fun k => k = g ∨ k = e) w).setCell (p := ⟨e, j, none⟩) (fun _ => .inr rfl) v).setCell (p := ⟨g, i, none⟩) (fun _ => .inl rfl) u
/-- a console that is being made: its line, who is there, its past, its log -/
def makeC (c : Con) (lv sv pv jv : Value) : Array Value :=
  #[lv, .string c.name, .int .i64 c.kind, .int .i64 c.lines, .int .i64 c.bytes, .int .i64 c.gens, .int .i64 c.size, .int .i64 c.base, .int .i64 c.cap, .int .i64 c.jitter, .string c.init, sv, pv, jv]
/-- what New's steps share: where the console lies, and how it went so far -/
structure Mk (w : World) (xb x8 e9 : Nat) (c : Con) (lv sv pv jv : Value) (e : Int) : Prop where
  x : Blk w x8 30 #[.pointer (some ⟨xb, 0, none⟩)]
  e : Blk w e9 31 #[.int .i64 e]
  t : Blk w xb 60 (makeC c lv sv pv jv)
section
variable {w w' : World} {xb x8 e9 : Nat} {c : Con} {lv sv pv jv : Value} {e0 : Int}
theorem Mk.keeps {S : Nat → Prop} (h : Mk w xb x8 e9 c lv sv pv jv e0) (k : Keeps S w w') (h1 : ¬ S xb) (h2 : ¬ S x8) (h3 : ¬ S e9) : Mk w' xb x8 e9 c lv sv pv jv e0 := ⟨h.x.keeps k h2, h.e.keeps k h3, h.t.keeps k h1⟩
theorem Mk.cells (h : Mk w xb x8 e9 c lv sv pv jv e0) : (w.cell? ⟨x8, 0, none⟩ = some (.pointer (some ⟨xb, 0, none⟩)) ∧ w.cell? ⟨e9, 0, none⟩ = some (.int .i64 e0) ∧ w.frozen? ⟨e9, 0, none⟩ = false) ∧ (w.cell? ⟨xb, 0, none⟩ = some lv ∧ w.frozen? ⟨xb, 0, none⟩ = false) ∧ (w.cell? ⟨xb, 11, none⟩ = some sv ∧ w.frozen? ⟨xb, 11, none⟩ = false) ∧ (w.cell? ⟨xb, 12, none⟩ = some pv ∧ w.frozen? ⟨xb, 12, none⟩ = false) ∧ (w.cell? ⟨xb, 13, none⟩ = some jv ∧ w.frozen? ⟨xb, 13, none⟩ = false) :=
  ⟨⟨h.x.cell 0, h.e.cell 0, h.e.frozen 0⟩, ⟨h.t.cell 0, h.t.frozen 0⟩, ⟨h.t.cell 11, h.t.frozen 11⟩, ⟨h.t.cell 12, h.t.frozen 12⟩, ⟨h.t.cell 13, h.t.frozen 13⟩⟩
theorem Mk.put (h : Mk w xb x8 e9 c lv sv pv jv e0) (i : Nat) (u : Value) (e' : Int) {lv' sv' pv' jv' : Value} (hset : (makeC c lv sv pv jv).setIfInBounds i u = makeC c lv' sv' pv' jv') :
    (Mk ((w.setCell ⟨xb, i, none⟩ u).setCell ⟨e9, 0, none⟩ (.int .i64 e')) xb x8 e9 c lv' sv' pv' jv' e' ∧ Keeps (fun k => k = xb ∨ k = e9) w ((w.setCell ⟨xb, i, none⟩ u).setCell ⟨e9, 0, none⟩ (.int .i64 e'))) ∧
    (Mk ((w.setCell ⟨e9, 0, none⟩ (.int .i64 e')).setCell ⟨xb, i, none⟩ u) xb x8 e9 c lv' sv' pv' jv' e' ∧ Keeps (fun k => k = xb ∨ k = e9) w ((w.setCell ⟨e9, 0, none⟩ (.int .i64 e')).setCell ⟨xb, i, none⟩ u)) := by
  obtain ⟨⟨a1, a2, a3⟩, b1, b2, b3⟩ := Blk.two h.t h.e (by decide) i 0 u (.int .i64 e')
  have n1 : x8 ≠ xb := Blk.ne_ h.x h.t (by decide)
  have n2 : x8 ≠ e9 := Blk.ne_ h.x h.e (by decide)
  rw [hset] at a1 b1
  have hx : ¬ (x8 = xb ∨ x8 = e9) := fun e => e.elim n1 n2
  exact ⟨⟨⟨h.x.keeps a3 hx, a2, a1⟩, a3⟩, ⟨⟨h.x.keeps b3 hx, b2, b1⟩, b3⟩⟩
set_option maxRecDepth 100000 in
theorem cnew4 (h : Mk w xb x8 e9 c lv sv pv jv e0) : Calls Tryz.prog 46 #[.pointer (some ⟨x8, 0, none⟩), .pointer (some ⟨e9, 0, none⟩)] w fun e w' =>
    e = .returned (.tuple #[]) ∧ (∃ p g b, Mk w' xb x8 e9 c lv sv (.pointer (some ⟨p, 0, none⟩)) jv 0 ∧ IsPast w' p g b 32768 [] ∧ w.heap.size ≤ p ∧ w.heap.size ≤ g ∧ w.heap.size ≤ b) ∧ Keeps (fun k => k = xb ∨ k = e9) w w' := by
  have H := Lib.hid h
  have HP := Lib.hid (fun W => pnew_ok W 32768 (by decide) (by decide))
  obtain ⟨⟨c0, -, -⟩, -, -, -, -⟩ := h.cells
  clear h
  go_enter Tryz.func46, Tryz.ntmps46
  go_wp2_with fail
  go_region_with (go_at_call 47; refine (HP.out _).mono ?_; rintro e w3 ⟨p, g, b, rfl, hp, hg, hb, k3, hP⟩; have hpb : w.heap.size ≤ p ∧ w.heap.size ≤ g ∧ w.heap.size ≤ b := ⟨hp, hg, hb⟩; have k3 : Keeps (fun _ => False) w w3 := (by first | exact k3 | exact k3.from_drew); have hM := H.out.keeps k3 (fun h => h) (fun h => h) (fun h => h); obtain ⟨⟨d0, d1, d2⟩, -, -, ⟨d3, d4⟩, -⟩ := hM.cells; have HM := Lib.hid hM; have HPP := Lib.hid hP; have HB := Lib.hid hpb; have HK := Lib.hid k3; clear hM hP hp hg hb k3 hpb)
  all_goals
    refine bodyPost_end (results_none rfl _ _ _) rfl ?_
    have hx : ∀ {W : World}, Mk W xb x8 e9 c lv sv (.pointer (some ⟨p, 0, none⟩)) jv 0 → Keeps (fun k => k = xb ∨ k = e9) w3 W → (∃ p g b, Mk W xb x8 e9 c lv sv (.pointer (some ⟨p, 0, none⟩)) jv 0 ∧ IsPast W p g b 32768 [] ∧ w.heap.size ≤ p ∧ w.heap.size ≤ g ∧ w.heap.size ≤ b) ∧ Keeps (fun k => k = xb ∨ k = e9) w W := fun {W} hm hk => by
      obtain ⟨b1, b2, b3⟩ := HB.out
      have l1 := H.out.t.lt
      have l2 := H.out.e.lt
      exact ⟨⟨p, g, b, hm, HPP.out.keeps hk (by omega) (by omega) (by omega), b1, b2, b3⟩, (HK.out.none_).trans hk⟩
    have h2 := HM.out.put 12 (.pointer (some ⟨p, 0, none⟩)) 0 (lv' := lv) (sv' := sv) (pv' := .pointer (some ⟨p, 0, none⟩)) (jv' := jv) rfl
    exact ⟨rfl, by first | exact hx h2.1.1 h2.1.2 | exact hx h2.2.1 h2.2.2⟩
set_option maxRecDepth 100000 in
theorem cnew1 (h : Mk w xb x8 e9 c lv sv pv jv e0) (cb : Nat) (hcb : Blk w cb 23 (conR c).toArray) (hi : c.init.size ≤ 1073741824) : Calls Tryz.prog 40 #[.pointer (some ⟨cb, 0, none⟩), .pointer (some ⟨x8, 0, none⟩), .pointer (some ⟨e9, 0, none⟩)] w fun e w' =>
    e = .returned (.tuple #[]) ∧ ((lineC0 c = 0 ∧ ∃ lb, Mk w' xb x8 e9 c (.pointer (some ⟨lb, 0, none⟩)) sv pv jv 0 ∧ LineAt w' (Ext (fun _ => False) w w') lb (lnOf c)) ∨ (lineC0 c ≠ 0 ∧ Mk w' xb x8 e9 c (.pointer none) sv pv jv (lineC0 c))) ∧ Keeps (fun k => k = xb ∨ k = e9) w w' := by
  have H := Lib.hid h
  have hP : ∀ W, Calls Tryz.prog 41 #[conV c] W fun e w' => (∃ o, e = .returned (.tuple #[.pointer o, .int .i64 (lineC0 c)]) ∧ ((lineC0 c = 0 ∧ ∃ lb, o = some ⟨lb, 0, none⟩ ∧ LineAt w' (Ext (fun _ => False) W w') lb (lnOf c)) ∨ (lineC0 c ≠ 0 ∧ o = none))) ∧ Keeps (fun _ => False) W w' := fun W => (lnew_any W c hi).mono fun e w' ⟨hO, k⟩ => by
    rcases hO with ⟨h0, lb, he, hl⟩ | ⟨h0, he⟩
    · exact ⟨⟨_, by rw [h0]; exact he, .inl ⟨h0, lb, rfl, hl⟩⟩, k⟩
    · exact ⟨⟨_, he, .inr ⟨h0, rfl⟩⟩, k⟩
  have HP := Lib.hid hP
  obtain ⟨⟨c0, -, -⟩, -, -, -, -⟩ := h.cells
  have hne : ¬ xb = e9 := Blk.ne_ h.t h.e (by decide)
  have hne2 : ¬ e9 = xb := fun e => hne e.symm
  clear hP
  obtain ⟨L, hL⟩ : ∃ L, L = lineC0 c := ⟨_, rfl⟩
  rw [← hL] at HP ⊢
  obtain ⟨m, hm⟩ : ∃ m, m = lnOf c := ⟨_, rfl⟩
  rw [← hm] at HP ⊢
  unfold conV conR at HP
  have y0 := hcb.cell 0
  have y1 := hcb.cell 1
  have y2 := hcb.cell 2
  have y3 := hcb.cell 3
  have y4 := hcb.cell 4
  have y5 := hcb.cell 5
  have y6 := hcb.cell 6
  have y7 := hcb.cell 7
  have y8 := hcb.cell 8
  have y9 := hcb.cell 9
  unfold conR at y0 y1 y2 y3 y4 y5 y6 y7 y8 y9
  simp only [List.getElem?_toArray, List.getElem?_cons_zero, List.getElem?_cons_succ] at y0 y1 y2 y3 y4 y5 y6 y7 y8 y9
  clear h hcb hi hL hm
  go_enter Tryz.func40, Tryz.ntmps40
  go_wp2_with fail
  go_region_with (go_at_call 41; refine (HP.out _).mono ?_; rintro e w3 ⟨⟨o, rfl, hO⟩, k3⟩; have k3 : Keeps (fun _ => False) w w3 := (by first | exact k3 | exact k3.from_drew); have hM := H.out.keeps k3 (fun h => h) (fun h => h) (fun h => h); obtain ⟨⟨d0, d1, d2⟩, ⟨d3, d4⟩, -, -, -⟩ := hM.cells; have HM := Lib.hid hM; have HK := Lib.hid k3; have HO := Lib.hid hO; clear hM k3 hO)
  all_goals
    refine bodyPost_end (results_none rfl _ _ _) rfl ?_
    have h2 := HM.out.put 0 (.pointer o) L (lv' := .pointer o) (sv' := sv) (pv' := pv) (jv' := jv) rfl
    have hx : ∀ {W : World}, Mk W xb x8 e9 c (.pointer o) sv pv jv L → Keeps (fun k => k = xb ∨ k = e9) w3 W → ((L = 0 ∧ ∃ lb, Mk W xb x8 e9 c (.pointer (some ⟨lb, 0, none⟩)) sv pv jv 0 ∧ LineAt W (Ext (fun _ => False) w W) lb m) ∨ (L ≠ 0 ∧ Mk W xb x8 e9 c (.pointer none) sv pv jv L)) ∧ Keeps (fun k => k = xb ∨ k = e9) w W := fun {W} hm hk => by
      refine ⟨?_, (HK.out.none_).trans hk⟩
      rcases HO.out with ⟨h0, lb, ho, hl⟩ | ⟨h0, ho⟩
      · rw [ho, h0] at hm
        have l1 := H.out.t.lt
        have l2 := H.out.e.lt
        have hsz := HK.out.size
        refine .inl ⟨h0, lb, hm, (hl.keeps hk (fun i hi e => ?_)).mono (fun i hi => hi.imp id (fun e => ⟨e.1, Nat.lt_of_lt_of_le e.2 hk.size⟩)) (fun i hi => hi.elim (fun e => e.elim) (·.2))⟩
        rcases hi with hi | hi
        · exact hi.elim
        · have h1 := hi.1
          have h1 : w.heap.size ≤ i := h1
          rcases e with rfl | rfl <;> omega
      · rw [ho] at hm
        exact .inr ⟨h0, hm⟩
    exact ⟨rfl, by first | exact hx h2.1.1 h2.1.2 | exact hx h2.2.1 h2.2.2⟩
end
end Go.Proofs.YtkmpdobojgiegaaGreatDoor

/-
  console: the steps of New: who is there, the log.
-/
namespace Go.Proofs.YtkmpdobojgiegaaGreatDoor
open Go.RowKit

/-- may a log be kept so? -/
def logOk (k size : Int) : Bool := decide (1 ≤ k) && decide (k ≤ 16) && decide (64 ≤ size) && decide (size ≤ 1048576)
theorem logOk_iff {k size : Int} : logOk k size = true ↔ 1 ≤ k ∧ k ≤ 16 ∧ 64 ≤ size ∧ size ≤ 1048576 := by unfold logOk; simp [and_assoc]
set_option maxRecDepth 100000 in
theorem jnew_bad (w : World) (s : Nat) (base : ByteArray) (k size : Int) (h : logOk k size = false) :
    Calls Tryz.prog 45 #[.pointer (some ⟨s, 0, none⟩), .string base, .int .i64 k, .int .i64 size] w fun e w' => e = .returned (.tuple #[.pointer none, .int .i64 2]) ∧ w' = w := by
  have hn : ¬ (1 ≤ k ∧ k ≤ 16 ∧ 64 ≤ size ∧ size ≤ 1048576) := fun e => by rw [logOk_iff.2 e] at h; cases h
  clear h
  by_cases h1 : k < 1
  · clear hn
    go_enter Tryz.func45, Tryz.ntmps45
    go_wp2_with fail
    go_ret2
    exact ⟨rfl, rfl⟩
  · by_cases h2 : 16 < k
    · clear hn
      go_enter Tryz.func45, Tryz.ntmps45
      go_wp2_with fail
      go_ret2
      exact ⟨rfl, rfl⟩
    · by_cases h3 : size < 64
      · clear hn
        go_enter Tryz.func45, Tryz.ntmps45
        go_wp2_with fail
        go_ret2
        exact ⟨rfl, rfl⟩
      · have h4 : 1048576 < size := by omega
        clear hn
        go_enter Tryz.func45, Tryz.ntmps45
        go_wp2_with fail
        go_ret2
        exact ⟨rfl, rfl⟩
set_option maxRecDepth 100000 in
theorem jnew_okF (w : World) (s : Nat) (base : ByteArray) (hb : base.size ≤ 1048576) (k size : Int) (hk : logOk k size = true) :
    Calls Tryz.prog 45 #[.pointer (some ⟨s, 0, none⟩), .string base, .int .i64 k, .int .i64 size] w fun e w' => (∃ jb, e = .returned (.tuple #[.pointer (some ⟨jb, 0, none⟩), .int .i64 0]) ∧ JourB w' jb s base k.toNat size.toNat false 0 ∧ w.heap.size ≤ jb) ∧ Keeps (fun _ => False) w w' := by
  obtain ⟨h1, h2, h3, h4⟩ := logOk_iff.1 hk
  have a1 : ¬ k < 1 := by omega
  have a2 : ¬ 16 < k := by omega
  have a3 : ¬ size < 64 := by omega
  have a4 : ¬ 1048576 < size := by omega
  have HK := Lib.hid (And.intro h1 (And.intro h2 (And.intro h3 h4)))
  have HB := Lib.hid hb
  clear h1 h2 h3 h4 hk hb
  go_enter Tryz.func45, Tryz.ntmps45
  go_wp2_with fail
  go_ret2
  obtain ⟨b1, b2, b3, b4⟩ := HK.out
  refine ⟨⟨w.heap.size, rfl, ⟨?_, ⟨by omega, by omega⟩, ⟨by omega, by omega⟩, HB.out, by omega⟩, Nat.le_refl _⟩, by (repeat (first | (with_reducible assumption) | (with_reducible exact Keeps.refl _ _) | refine Keeps.drew ?_ | refine Keeps.drewN ?_ _ | refine Keeps.setCell ?_ (by simp) _ | refine Keeps.setRow ?_ (by simp) _ | refine Keeps.alloc ?_ _))⟩
  rw [show ((k.toNat : Nat) : Int) = k by omega, show ((size.toNat : Nat) : Int) = size by omega]
  exact Blk.new w _ _
section
variable {w w' : World} {xb x8 e9 : Nat} {c : Con} {lv sv pv jv : Value} {e0 : Int}
/-- why nobody may be there; 0: they may -/
def seatC0 (most : Int) : Int := if 1 ≤ most ∧ most ≤ 4096 then 0 else 2
set_option maxRecDepth 100000 in
theorem cnew2 (h : Mk w xb x8 e9 c lv sv pv jv e0) (b5 : Nat) (most : Int) (hb5 : w.cell? ⟨b5, 0, none⟩ = some (.int .i64 most)) : Calls Tryz.prog 42 #[.pointer (some ⟨b5, 0, none⟩), .pointer (some ⟨x8, 0, none⟩), .pointer (some ⟨e9, 0, none⟩)] w fun e w' =>
    e = .returned (.tuple #[]) ∧ ((seatC0 most = 0 ∧ ∃ sb, Mk w' xb x8 e9 c lv (.pointer (some ⟨sb, 0, none⟩)) pv jv 0 ∧ SeatAt w' (Ext (fun _ => False) w w') sb (Sea.new most)) ∨ (seatC0 most ≠ 0 ∧ Mk w' xb x8 e9 c lv (.pointer none) pv jv (seatC0 most))) ∧ Keeps (fun k => k = xb ∨ k = e9) w w' := by
  have H := Lib.hid h
  have hP : ∀ W, Calls Tryz.prog 43 #[.int .i64 most] W fun e w' => (∃ o, e = .returned (.tuple #[.pointer o, .int .i64 (seatC0 most)]) ∧ ((seatC0 most = 0 ∧ ∃ sb, o = some ⟨sb, 0, none⟩ ∧ SeatAt w' (Ext (fun _ => False) W w') sb (Sea.new most)) ∨ (seatC0 most ≠ 0 ∧ o = none))) ∧ Keeps (fun _ => False) W w' := fun W => by
    unfold seatC0
    by_cases hm : 1 ≤ most ∧ most ≤ 4096
    · rw [if_pos hm]
      refine (snew_seat W most hm).mono ?_
      rintro e w' ⟨sb, he, hs, k⟩
      exact ⟨⟨_, he, .inl ⟨rfl, sb, rfl, hs⟩⟩, k⟩
    · rw [if_neg hm]
      refine (snew_seat_no W most (by omega)).mono ?_
      rintro e w' ⟨he, rfl⟩
      exact ⟨⟨_, he, .inr ⟨by decide, rfl⟩⟩, Keeps.refl _ _⟩
  have HP := Lib.hid hP
  obtain ⟨⟨c0, -, -⟩, -, -, -, -⟩ := h.cells
  obtain ⟨L, hL⟩ : ∃ L, L = seatC0 most := ⟨_, rfl⟩
  rw [← hL] at HP ⊢
  have hne : ¬ xb = e9 := Blk.ne_ h.t h.e (by decide)
  have hne2 : ¬ e9 = xb := fun e => hne e.symm
  clear h hL hP
  go_enter Tryz.func42, Tryz.ntmps42
  go_wp2_with fail
  go_region_with (go_at_call 43; refine (HP.out _).mono ?_; rintro e w3 ⟨⟨o, rfl, hO⟩, k3⟩; have k3 : Keeps (fun _ => False) w w3 := (by first | exact k3 | exact k3.from_drew); have hM := H.out.keeps k3 (fun h => h) (fun h => h) (fun h => h); obtain ⟨⟨d0, d1, d2⟩, -, ⟨d3, d4⟩, -, -⟩ := hM.cells; have HM := Lib.hid hM; have HK := Lib.hid k3; have HO := Lib.hid hO; clear hM k3 hO)
  all_goals
    refine bodyPost_end (results_none rfl _ _ _) rfl ?_
    have h2 := HM.out.put 11 (.pointer o) L (lv' := lv) (sv' := .pointer o) (pv' := pv) (jv' := jv) rfl
    have hx : ∀ {W : World}, Mk W xb x8 e9 c lv (.pointer o) pv jv L → Keeps (fun k => k = xb ∨ k = e9) w3 W → ((L = 0 ∧ ∃ sb, Mk W xb x8 e9 c lv (.pointer (some ⟨sb, 0, none⟩)) pv jv 0 ∧ SeatAt W (Ext (fun _ => False) w W) sb (Sea.new most)) ∨ (L ≠ 0 ∧ Mk W xb x8 e9 c lv (.pointer none) pv jv L)) ∧ Keeps (fun k => k = xb ∨ k = e9) w W := fun {W} hm hk => by
      refine ⟨?_, (HK.out.none_).trans hk⟩
      rcases HO.out with ⟨h0, sb, ho, hl⟩ | ⟨h0, ho⟩
      · rw [ho, h0] at hm
        have l1 := H.out.t.lt
        have l2 := H.out.e.lt
        have hsz := HK.out.size
        refine .inl ⟨h0, sb, hm, (hl.keeps hk (fun i hi e => ?_)).mono (fun i hi => hi.imp (fun h => h) (fun e => ⟨e.1, Nat.lt_of_lt_of_le e.2 hk.size⟩)) (fun i hi => hi.elim (fun e => e.elim) (·.2))⟩
        rcases hi with hi | hi
        · exact hi.elim
        · have h1 := hi.1
          have h1 : w.heap.size ≤ i := h1
          rcases e with rfl | rfl <;> omega
      · rw [ho] at hm
        exact .inr ⟨h0, hm⟩
    exact ⟨rfl, by first | exact hx h2.1.1 h2.1.2 | exact hx h2.2.1 h2.2.2⟩
set_option maxRecDepth 100000 in
theorem cbase (w : World) (s : ByteArray) (hs : s.size ≤ 1048576) : Calls Tryz.prog 20 #[.string s] w fun e w' => e = .returned (.string (s ++ ⟨#[46, 108, 111, 103]⟩)) ∧ w' = w := by
  go_enter Tryz.func20, Tryz.ntmps20
  go_wp2_with fail
  go_ret
  exact ⟨rfl, rfl⟩
/-- why there is no log; 0: there is one -/
def logC0 (c : Con) : Int := if logOk c.gens c.size = true then 0 else 2
set_option maxRecDepth 100000 in
set_option maxHeartbeats 1000000 in
theorem cnew3 (h : Mk w xb x8 e9 c lv sv pv jv e0) (b4 cb s : Nat) (hb4 : Blk w b4 25 #[.pointer (some ⟨s, 0, none⟩)]) (hcb : Blk w cb 23 (conR c).toArray) (hn : c.name.size ≤ 1048000) : Calls Tryz.prog 44 #[.pointer (some ⟨b4, 0, none⟩), .pointer (some ⟨cb, 0, none⟩), .pointer (some ⟨x8, 0, none⟩), .pointer (some ⟨e9, 0, none⟩)] w fun e w' =>
    e = .returned (.tuple #[]) ∧ ((logC0 c = 0 ∧ ∃ jb, Mk w' xb x8 e9 c lv sv pv (.pointer (some ⟨jb, 0, none⟩)) 0 ∧ JourB w' jb s (baseOf c) c.gens.toNat c.size.toNat false 0 ∧ w.heap.size ≤ jb) ∨ (logC0 c ≠ 0 ∧ Mk w' xb x8 e9 c lv sv pv (.pointer none) (logC0 c))) ∧ Keeps (fun k => k = xb ∨ k = e9) w w' := by
  have H := Lib.hid h
  have hbz : (baseOf c).size ≤ 1048576 := by unfold baseOf; simp; have : (⟨#[46, 108, 111, 103]⟩ : ByteArray).size = 4 := rfl; omega
  have hP : ∀ W, Calls Tryz.prog 45 #[.pointer (some ⟨s, 0, none⟩), .string (baseOf c), .int .i64 c.gens, .int .i64 c.size] W fun e w' => (∃ o, e = .returned (.tuple #[.pointer o, .int .i64 (logC0 c)]) ∧ ((logC0 c = 0 ∧ ∃ jb, o = some ⟨jb, 0, none⟩ ∧ JourB w' jb s (baseOf c) c.gens.toNat c.size.toNat false 0 ∧ W.heap.size ≤ jb) ∨ (logC0 c ≠ 0 ∧ o = none))) ∧ Keeps (fun _ => False) W w' := fun W => by
    unfold logC0
    cases hm : logOk c.gens c.size with
    | true =>
      rw [if_pos rfl]
      refine (jnew_okF W s _ hbz _ _ hm).mono ?_
      rintro e w' ⟨⟨jb, he, hs, hl⟩, k⟩
      exact ⟨⟨_, he, .inl ⟨rfl, jb, rfl, hs, hl⟩⟩, k⟩
    | false =>
      rw [if_neg (by decide)]
      refine (jnew_bad W s _ _ _ hm).mono ?_
      rintro e w' ⟨he, rfl⟩
      exact ⟨⟨_, he, .inr ⟨by decide, rfl⟩⟩, Keeps.refl _ _⟩
  have HP := Lib.hid hP
  have hB : ∀ W, Calls Tryz.prog 20 #[.string c.name] W fun e w' => e = .returned (.string (baseOf c)) ∧ w' = W := fun W => cbase W c.name (by omega)
  have HB := Lib.hid hB
  obtain ⟨⟨c0, -, -⟩, -, -, -, -⟩ := h.cells
  obtain ⟨L, hL⟩ : ∃ L, L = logC0 c := ⟨_, rfl⟩
  rw [← hL] at HP ⊢
  have hne : ¬ xb = e9 := Blk.ne_ h.t h.e (by decide)
  have hne2 : ¬ e9 = xb := fun e => hne e.symm
  have tr : ∀ {g : Nat} {t : TypeId} {cs : Array Value}, Blk w g t cs → t ≠ 60 → t ≠ 31 → ∀ W, Keeps (fun k => k = xb ∨ k = e9) w W → ∀ i, W.cell? ⟨g, i, none⟩ = cs[i]? := fun hb h1 h2 W k i => (hb.keeps k (fun e => e.elim (Blk.ne_ hb h.t h1) (Blk.ne_ hb h.e h2))).cell i
  have y0 : ∀ W, Keeps (fun k => k = xb ∨ k = e9) w W → W.cell? ⟨cb, 0, none⟩ = some (.string c.name) := fun W k => tr hcb (by decide) (by decide) W k 0
  have y4 : ∀ W, Keeps (fun k => k = xb ∨ k = e9) w W → W.cell? ⟨cb, 4, none⟩ = some (.int .i64 c.gens) := fun W k => tr hcb (by decide) (by decide) W k 4
  have y5 : ∀ W, Keeps (fun k => k = xb ∨ k = e9) w W → W.cell? ⟨cb, 5, none⟩ = some (.int .i64 c.size) := fun W k => tr hcb (by decide) (by decide) W k 5
  have yb : ∀ W, Keeps (fun k => k = xb ∨ k = e9) w W → W.cell? ⟨b4, 0, none⟩ = some (.pointer (some ⟨s, 0, none⟩)) := fun W k => tr hb4 (by decide) (by decide) W k 0
  have yx : ∀ W, Keeps (fun k => k = xb ∨ k = e9) w W → W.cell? ⟨x8, 0, none⟩ = some (.pointer (some ⟨xb, 0, none⟩)) := fun W k => tr h.x (by decide) (by decide) W k 0
  obtain ⟨B, hBB⟩ : ∃ B, B = baseOf c := ⟨_, rfl⟩
  rw [← hBB] at HP HB ⊢
  clear c0
  clear h hL hP hcb hn hbz hB hBB tr
  go_enter Tryz.func44, Tryz.ntmps44
  go_wp2_with fail
  go_region_held3 (fun W => Keeps (fun k => k = xb ∨ k = e9) w W)
    ((repeat (first | (with_reducible assumption) | (with_reducible exact Keeps.refl _ _) | refine Keeps.drew ?_ | refine Keeps.drewN ?_ _ | refine Keeps.setCell ?_ (by simp) _ | refine Keeps.setRow ?_ (by simp) _ | refine Keeps.alloc ?_ _)))
    ((first
      | (go_at_call 20; refine (HB.out _).mono ?_; rintro e w2 ⟨rfl, hw⟩; obtain rfl := hw.symm)
      | (go_at_call 45; refine (HP.out _).mono ?_; rintro e w3 ⟨⟨o, rfl, hO⟩, k3⟩; have k3 : Keeps (fun _ => False) w w3 := (by first | exact k3 | exact k3.from_drew); have kx : Keeps (fun k => k = xb ∨ k = e9) w w3 := k3.none_; have hM := H.out.keeps k3 (fun h => h) (fun h => h) (fun h => h); obtain ⟨⟨d0, d1, d2⟩, -, -, -, ⟨d3, d4⟩⟩ := hM.cells; have HM := Lib.hid hM; have HK := Lib.hid k3; have HO := Lib.hid hO; clear hM k3 hO)))
  all_goals
    refine bodyPost_end (results_none rfl _ _ _) rfl ?_
    have h2 := HM.out.put 13 (.pointer o) L (lv' := lv) (sv' := sv) (pv' := pv) (jv' := .pointer o) rfl
    have hx : ∀ {W : World}, Mk W xb x8 e9 c lv sv pv (.pointer o) L → Keeps (fun k => k = xb ∨ k = e9) w3 W → ((L = 0 ∧ ∃ jb, Mk W xb x8 e9 c lv sv pv (.pointer (some ⟨jb, 0, none⟩)) 0 ∧ JourB W jb s B c.gens.toNat c.size.toNat false 0 ∧ w.heap.size ≤ jb) ∨ (L ≠ 0 ∧ Mk W xb x8 e9 c lv sv pv (.pointer none) L)) ∧ Keeps (fun k => k = xb ∨ k = e9) w W := fun {W} hm hk => by
      refine ⟨?_, (HK.out.none_).trans hk⟩
      rcases HO.out with ⟨h0, jb, ho, hl, hlo⟩ | ⟨h0, ho⟩
      · rw [ho, h0] at hm
        have l1 := H.out.t.lt
        have l2 := H.out.e.lt
        have hsz := HK.out.size
        have hlo : w.heap.size ≤ jb := hlo
        exact .inl ⟨h0, jb, hm, hl.keeps hk (by omega), hlo⟩
      · rw [ho] at hm
        exact .inr ⟨h0, hm⟩
    exact ⟨rfl, by first | exact hx h2.1.1 h2.1.2 | exact hx h2.2.1 h2.2.2⟩
end
end Go.Proofs.YtkmpdobojgiegaaGreatDoor

/-
  The document's answer on a tail (wheelhouseref05, wheelhouseref20, wheelhouseref23), and restore.Tail.
-/
namespace Go.Proofs.YtkmpdobojgiegaaGreatDoor
open Go.RowKit

/-- what the console told -/
def dataP (xs : List Itm) : List UInt8 := xs.flatMap fun x => if x.kind = 1 then x.body.data.toList else []
theorem dataP_snoc (xs : List Itm) (x : Itm) : dataP (xs ++ [x]) = dataP xs ++ (if x.kind = 1 then x.body.data.toList else []) := by unfold dataP; simp
theorem dataP_take {l : List Itm} {i : Nat} {x : Itm} (h : l[i]? = some x) : dataP (l.take (i + 1)) = dataP (l.take i) ++ (if x.kind = 1 then x.body.data.toList else []) := by rw [itm_take h, dataP_snoc]
set_option maxRecDepth 100000 in
theorem rmany_any (w : World) (s : ByteArray) (hs : s.size ≤ 4611686018427387904) : Calls Tryz.prog 143 #[.string s] w fun e w' => e = .returned (.int .i64 (manyT s.data.toList : Nat)) ∧ w' = w := by
  have hlen : s.data.toList.length = s.size := by simp
  obtain ⟨l, hl⟩ : ∃ l, l = s.data.toList := ⟨_, rfl⟩
  rw [← hl] at hlen ⊢
  have hget : ∀ (k : Nat) c, l[k]? = some c → ∀ h, s[k]'h = c := by
    intro k c hc h
    rw [hl] at hc
    rw [← (List.getElem?_eq_some_iff.1 hc).2]; rfl
  have HN := Lib.hid hlen
  have HG := Lib.hid hget
  clear hl hlen hget
  go_enter Tryz.func143, Tryz.ntmps143
  go_wp2_with fail
  go_loopw [3, 4] (fun u3 u4 wr => w = wr ∧ ∃ i n : Nat, u4 = .int .i64 i ∧ u3 = .int .i64 n ∧ i ≤ s.size ∧ n ≤ i ∧ Hid (n = manyT (l.take i))) (fun _ u4 _ => s.size - (intOf u4).toNat)
  case atStart => exact ⟨rfl, 0, 0, rfl, rfl, Nat.zero_le _, Nat.le_refl _, Lib.hid rfl⟩
  case round =>
    obtain ⟨rfl, i, n, rfl, rfl, hi, hni, HH⟩ := hrel
    by_cases hlt : i < s.size
    · have hst := many_take (l := l) (i := i) (by rw [HN.out]; exact hlt)
      rw [← HH.out] at hst
      have HST := Lib.hid hst
      clear hst
      rcases Nat.eq_zero_or_pos i with h0 | h0
      · subst h0
        have hst := HST.out
        rw [if_pos (.inl rfl)] at hst
        have HST2 := Lib.hid hst
        clear hst
        go_wp2_with fail
        exact ⟨⟨trivial, 1, n + 1, by go_num, by go_num, by omega, by omega, HST2.out.symm⟩, by simp [intOf]; omega⟩
      · obtain ⟨c, hc⟩ : ∃ c, l[i - 1]? = some c := ⟨_, List.getElem?_eq_getElem (by rw [HN.out]; omega)⟩
        have hsc := HG.out (i - 1) c hc
        have hi0 : ((i : Int) == 0) = false := by rw [beq_eq_false_iff_ne]; omega
        have hi1 : ((i : Int) - 1).toNat = i - 1 := by omega
        have hst := HST.out
        rw [hc] at hst
        by_cases h10 : c = 10
        · subst h10
          rw [if_pos (.inr rfl)] at hst
          have HST2 := Lib.hid hst
          clear hst hc
          go_wp2_with fail
          exact ⟨⟨trivial, i + 1, n + 1, by go_num, by go_num, by omega, by omega, HST2.out.symm⟩, by simp [intOf]; omega⟩
        · rw [if_neg (by rintro (h | h); exact absurd h (by omega); exact h10 (Option.some.inj h))] at hst
          have HST2 := Lib.hid hst
          have b10 : ((c.toNat : Int) == 10) = false := by rw [beq_eq_false_iff_ne]; intro e; exact h10 (UInt8.toNat_inj.1 (by show c.toNat = 10; omega))
          clear hst hc
          go_wp2_with fail
          exact ⟨⟨trivial, i + 1, n, by go_num, by first | rfl | go_num, by omega, by omega, HST2.out.symm⟩, by simp [intOf]; omega⟩
    · have hh : n = manyT l := by rw [HH.out, List.take_of_length_le (by rw [HN.out]; omega)]
      have HX := Lib.hid hh
      clear hh
      go_wp2_with fail
      go_ret
      exact ⟨by rw [← HX.out]; rfl, rfl⟩
set_option maxRecDepth 100000 in
theorem rfits_any (w : World) (s : ByteArray) (n b : Nat) (hs : s.size ≤ 4611686018427387904) (r : Bool) (hr : r = fitB b n s.data.toList) : Calls Tryz.prog 76 #[.string s, .int .i64 n, .int .i64 b] w fun e w' => e = .returned (.bool r) ∧ w' = w := by
  have hlen : s.data.toList.length = s.size := by simp
  have HM := Lib.hid (rmany_any w s hs)
  unfold fitB at hr
  rw [hlen] at hr
  obtain ⟨q, hq⟩ : ∃ q, q = manyT s.data.toList := ⟨_, rfl⟩
  rw [← hq] at hr HM
  clear hlen hq
  by_cases h1 : s.size ≤ b
  · have h1i : (s.size : Int) ≤ b := by omega
    by_cases h2 : q ≤ n
    · have h2i : (q : Int) ≤ n := by omega
      have hd2 : decide (q ≤ n) = true := decide_eq_true h2
      have hrt : r = true := by rw [hr, decide_eq_true h1, decide_eq_true h2]; rfl
      subst hrt
      clear h1 h2 hr
      go_enter Tryz.func76, Tryz.ntmps76
      go_wp2_with (go_at_call 143; refine HM.out.mono ?_; rintro e w2 ⟨rfl, hw⟩; obtain rfl : w = w2 := hw.symm)
      go_ret
      exact ⟨rfl, rfl⟩
    · have h2i : ¬ (q : Int) ≤ n := by omega
      have hd2 : decide (q ≤ n) = false := decide_eq_false h2
      have hrt : r = false := by rw [hr, decide_eq_false h2]; simp
      subst hrt
      clear h1 h2 hr
      go_enter Tryz.func76, Tryz.ntmps76
      go_wp2_with (go_at_call 143; refine HM.out.mono ?_; rintro e w2 ⟨rfl, hw⟩; obtain rfl : w = w2 := hw.symm)
      go_ret
      exact ⟨rfl, rfl⟩
  · have h1i : ¬ (s.size : Int) ≤ b := by omega
    have hrt : r = false := by rw [hr, decide_eq_false h1]; simp
    subst hrt
    clear h1 hr
    go_enter Tryz.func76, Tryz.ntmps76
    go_wp2_with fail
    go_ret
    exact ⟨rfl, rfl⟩
theorem tail_skip {b n : Nat} {l : List UInt8} {i : Nat} (hi : i < l.length) (h : fitB b n (l.drop i) = false) : tailP b n (l.drop i) = tailP b n (l.drop (i + 1)) := by
  have e := List.drop_eq_getElem_cons hi
  rw [e] at h ⊢
  rw [tailP, if_neg (by rw [h]; simp)]
theorem tail_hit {b n : Nat} {l : List UInt8} {i : Nat} (hi : i < l.length) (h : fitB b n (l.drop i) = true) : tailP b n (l.drop i) = l.drop i := by
  have e := List.drop_eq_getElem_cons hi
  rw [e] at h ⊢
  rw [tailP, if_pos h]
set_option maxRecDepth 100000 in
set_option maxHeartbeats 1000000 in
theorem rtail_any (w : World) (s : ByteArray) (n b : Nat) (hs : s.size ≤ 1099511627776) : Calls Tryz.prog 27 #[.string s, .int .i64 n, .int .i64 b] w fun e w' => e = .returned (.string (str (tailP b n s.data.toList))) ∧ w' = w := by
  have hlen : s.data.toList.length = s.size := by simp
  obtain ⟨l, hl⟩ : ∃ l, l = s.data.toList := ⟨_, rfl⟩
  rw [← hl] at hlen ⊢
  obtain ⟨V, hV⟩ : ∃ V, V = str (tailP b n l) := ⟨_, rfl⟩
  rw [← hV]
  have HV := Lib.hid hV
  have HL := Lib.hid hl
  have HN := Lib.hid hlen
  clear hV hl hlen
  go_enter Tryz.func27, Tryz.ntmps27
  go_wp2_with fail
  go_loopw [7] (fun u7 wr => w = wr ∧ ∃ i : Nat, u7 = .int .i64 i ∧ i ≤ s.size ∧ Hid (tailP b n (l.drop i) = tailP b n l)) (fun u7 _ => s.size - (intOf u7).toNat)
  case atStart => exact ⟨rfl, 0, rfl, Nat.zero_le _, Lib.hid (by rw [List.drop_zero])⟩
  case round =>
    obtain ⟨rfl, i, rfl, hi, HI⟩ := hrel
    by_cases hlt : i < s.size
    · have hll : i < l.length := by rw [HN.out]; exact hlt
      have HHIT := Lib.hid (fun h => tail_hit (b := b) (n := n) hll h)
      have HSKIP := Lib.hid (fun h => tail_skip (b := b) (n := n) hll h)
      have hex : s.extract i s.size = str (l.drop i) := by
        apply ba_ext
        rw [ext_list, ← HL.out, str_list]
      obtain ⟨sx, hsx⟩ : ∃ sx, sx = s.extract i s.size := ⟨_, rfl⟩
      have hsx' := hsx.symm
      rw [hex] at hsx
      have hxz : sx.size = s.size - i := by rw [hsx, str_size, List.length_drop, HN.out]
      have hFI := fun r hr => rfits_any w sx n b (by omega) r hr
      rw [hsx, str_list] at hFI
      rw [← hsx] at hFI
      obtain ⟨r, hr⟩ : ∃ r, r = fitB b n (l.drop i) := ⟨_, rfl⟩
      have hFI2 := hFI r hr
      have HFI := Lib.hid hFI2
      have HR := Lib.hid hr
      have HSX := Lib.hid hsx
      have hw : IntKind.i64.wrap ((s.size : Int) - i) = (s.size : Int) - i := wrap_in (by omega) (by omega)
      have hbz : ¬ (s.size : Int) - i ≤ b → r = false := fun hnb => by
        rw [hr]
        unfold fitB
        rw [decide_eq_false (by rw [List.length_drop, HN.out]; omega)]
        simp
      have HBZ := Lib.hid hbz
      clear hll hex hsx hxz hFI hFI2 hr hbz
      cases r with
      | true =>
        have hV2 : V = sx := by rw [HV.out, ← HI.out, HHIT.out HR.out.symm, HSX.out]
        have HV2 := Lib.hid hV2
        have hle : (s.size : Int) - i ≤ b := by
          by_cases h : (s.size : Int) - i ≤ b
          · exact h
          · exact absurd (HBZ.out h) (by simp)
        clear hV2
        go_wp2_with (go_at_call 76; refine HFI.out.mono ?_; rintro e w2 ⟨rfl, hw⟩; obtain rfl : w = w2 := hw.symm)
        go_ret
        exact ⟨by rw [HV2.out]; rfl, rfl⟩
      | false =>
        have hsk := HSKIP.out HR.out.symm
        have HSK := Lib.hid (hsk.symm.trans HI.out)
        clear hsk
        by_cases hle : (s.size : Int) - i ≤ b
        · go_wp2_with (go_at_call 76; refine HFI.out.mono ?_; rintro e w2 ⟨rfl, hw⟩; obtain rfl : w = w2 := hw.symm)
          exact ⟨⟨trivial, i + 1, by go_num, by omega, HSK.out⟩, by simp [intOf]; omega⟩
        · go_wp2_with fail
          exact ⟨⟨trivial, i + 1, by go_num, by omega, HSK.out⟩, by simp [intOf]; omega⟩
    · have hV2 : V = ⟨#[]⟩ := by rw [HV.out, ← HI.out, List.drop_eq_nil_of_le (by rw [HN.out]; omega)]; rfl
      have HV2 := Lib.hid hV2
      clear hV2
      go_wp2_with fail
      go_ret
      exact ⟨by rw [HV2.out]; rfl, rfl⟩
end Go.Proofs.YtkmpdobojgiegaaGreatDoor

/-
  What the console told, of items (wheelhouseref20.Data), its tail (wheelhouseref23.Tail), and restore.Tail.
-/
namespace Go.Proofs.YtkmpdobojgiegaaGreatDoor
open Go.RowKit

theorem str_body (a : List UInt8) (s : ByteArray) : str a ++ s = str (a ++ s.data.toList) := by apply ba_ext; simp [str]
set_option maxRecDepth 100000 in
theorem rdata_any (w : World) (a : Option Addr) (n c : Nat) (l : List Itm) (h : SlAt itmR 3 w a n l) (hn : n ≤ 1048576) (hz : ∀ x ∈ l, x.body.size ≤ 1048576) :
    Calls Tryz.prog 17 #[.slice a n c] w fun e w' => e = .returned (.string (str (dataP l))) ∧ w' = w := by
  have HL := Lib.hid h
  have HN := Lib.hid h.1
  have HZ := Lib.hid hz
  clear h hz
  go_enter Tryz.func17, Tryz.ntmps17
  go_wp2_with fail
  go_loopw [3, 4] (fun u3 u4 wr => w = wr ∧ ∃ (i : Nat) (d : List UInt8), u4 = .int .i64 i ∧ u3 = .string (str d) ∧ i ≤ n ∧ d.length ≤ 1048576 * i ∧ Hid (d = dataP (l.take i))) (fun _ u4 _ => n - (intOf u4).toNat)
  case atStart => exact ⟨rfl, 0, [], rfl, rfl, Nat.zero_le _, by simp, Lib.hid rfl⟩
  case round =>
    obtain ⟨rfl, i, d, rfl, rfl, hi, hd, HH⟩ := hrel
    by_cases hlt : i < n
    · obtain ⟨x, hx⟩ : ∃ x, l[i]? = some x := ⟨_, List.getElem?_eq_getElem (by rw [HN.out]; exact hlt)⟩
      obtain ⟨b, off, rfl, _, hc⟩ := itm_at HL.out hx
      obtain ⟨x0, x1, x2⟩ := hc w (Keeps.refl _ _)
      have hst := dataP_take hx
      rw [← HH.out] at hst
      have hxb := HZ.out x (List.mem_of_getElem? hx)
      by_cases hk : x.kind = 1
      · rw [if_pos hk] at hst
        have hkb : (x.kind == 1) = true := by rw [beq_iff_eq]; exact hk
        have hss : (str d).size ≤ 1048576 * 1048576 := by rw [str_size]; omega
        have HST := Lib.hid hst
        have hbl : x.body.data.toList.length = x.body.size := by simp
        have HBL := Lib.hid hbl
        clear hx hc hst hbl
        obtain ⟨xk, xt, xb⟩ := x
        simp only at hk x0 x1 x2 hkb hxb
        subst hk
        go_wp2_with fail
        exact ⟨⟨trivial, i + 1, d ++ xb.data.toList, by go_num, by rw [str_body], by omega, by have := HBL.out; simp only at this; rw [List.length_append]; omega, HST.out.symm⟩, by simp [intOf]; omega⟩
      · rw [if_neg hk, List.append_nil] at hst
        have hkb : (x.kind == 1) = false := by rw [beq_eq_false_iff_ne]; exact hk
        have HST := Lib.hid hst
        clear hx hc hst hk
        go_wp2_with fail
        exact ⟨⟨trivial, i + 1, d, by go_num, rfl, by omega, by omega, HST.out.symm⟩, by simp [intOf]; omega⟩
    · have hh : d = dataP l := by rw [HH.out, List.take_of_length_le (by rw [HN.out]; omega)]
      have HX := Lib.hid hh
      clear hh
      go_wp2_with fail
      go_ret
      exact ⟨by rw [← HX.out]; rfl, rfl⟩
set_option maxRecDepth 100000 in
theorem restail_bad (w : World) (v : Value) (lines bytes : Int) (h : lines < 1 ∨ (¬ lines < 1 ∧ (1024 < lines ∨ (¬ 1024 < lines ∧ (bytes < 1 ∨ (¬ bytes < 1 ∧ 65536 < bytes)))))) : Calls Tryz.prog 114 #[v, .int .i64 lines, .int .i64 bytes] w fun e w' => e = .returned (.tuple #[.pointer none, .int .i64 2]) ∧ w' = w := by
  have HN := Lib.hid (tnew_bad w lines bytes h)
  clear h
  go_enter Tryz.func114, Tryz.ntmps114
  go_wp2_with fail
  refine HN.out.mono ?_
  rintro e w2 ⟨rfl, hw⟩
  obtain rfl : w = w2 := hw.symm
  go_wp2_with fail
  go_ret2
  exact ⟨rfl, rfl⟩
set_option maxRecDepth 100000 in
set_option maxHeartbeats 1000000 in
theorem restail_ok (w : World) (a : Option Addr) (n c : Nat) (l : List Itm) (h : SlAt itmR 3 w a n l) (hn : n ≤ 1048576) (hz : ∀ x ∈ l, x.body.size ≤ 1048576) (lines m : Nat) (hl : 1 ≤ lines ∧ lines ≤ 1024) (hm : 1 ≤ m ∧ m ≤ 65536) :
    Calls Tryz.prog 114 #[.slice a n c, .int .i64 lines, .int .i64 m] w fun e w' => (∃ t g b, e = .returned (.tuple #[.pointer (some ⟨t, 0, none⟩), .int .i64 0]) ∧ w.heap.size ≤ t ∧ w.heap.size ≤ g ∧ w.heap.size ≤ b ∧ TailAt w' t g b m lines (tailP m lines (dataP l)) (dataP l).length) ∧ Keeps (fun _ => False) w w' := by
  have HL := Lib.hid h
  have HNL := Lib.hid h.1
  have HZ := Lib.hid hz
  have HN := Lib.hid (tnew_ok w lines m hl hm)
  clear h hz hl hm
  go_enter Tryz.func114, Tryz.ntmps114
  go_wp2_with fail
  refine HN.out.mono ?_
  rintro e w2 ⟨⟨t, g, b, rfl, ht, hg, hb, T2⟩, k2⟩
  have HT2 := Lib.hid T2
  have HK2 := Lib.hid k2
  clear T2 k2
  go_wp2_with fail
  go_loopw [23] (fun u23 wr => ∃ (i : Nat) (d : List UInt8), u23 = .int .i64 i ∧ i ≤ n ∧ d.length ≤ 1048576 * i ∧ Hid (d = dataP (l.take i) ∧ TailAt wr t g b m lines (tailP m lines d) d.length ∧ Keeps (fun _ => False) w wr)) (fun u23 _ => n - (intOf u23).toNat)
  case atStart => exact ⟨0, [], rfl, Nat.zero_le _, by simp, Lib.hid ⟨rfl, HT2.out, HK2.out⟩⟩
  case round =>
    obtain ⟨i, d, rfl, hi, hd, HI⟩ := hrel
    rename World => wr
    by_cases hlt : i < n
    · obtain ⟨x, hx⟩ : ∃ x, l[i]? = some x := ⟨_, List.getElem?_eq_getElem (by rw [HNL.out]; exact hlt)⟩
      obtain ⟨b2, off, rfl, _, hc⟩ := itm_at HL.out hx
      obtain ⟨x0, x1, x2⟩ := hc wr HI.out.2.2
      have hst := dataP_take hx
      rw [← HI.out.1] at hst
      have hxb := HZ.out x (List.mem_of_getElem? hx)
      obtain ⟨xk, xt, xb⟩ := x
      simp only at x0 x1 x2 hst hxb
      have ka : Keeps (fun _ => False) wr (wr.alloc (.cells #[.int .i64 xk, .int .i64 xt, .string xb] 136)) := (Keeps.refl _ _).alloc _
      have HKA := Lib.hid ka
      clear hx hc ka
      by_cases hk : xk = 1
      · subst hk
        rw [if_pos rfl] at hst
        have HF := Lib.hid (tfeed (HI.out.2.1.same HKA.out) xb (by omega) (by omega))
        rw [tail_app] at HF
        have HST := Lib.hid hst
        have hbl : xb.data.toList.length = xb.size := by simp
        have HBL := Lib.hid hbl
        clear hst hbl
        go_wp2_with fail
        refine HF.out.mono ?_
        rintro e w3 ⟨rfl, T3, k3⟩
        have HT3 := Lib.hid T3
        have HK3 := Lib.hid (Keeps.and_ (HI.out.2.2.trans HKA.out) k3 (fun j hj e => by rcases e with e | e | e <;> omega))
        clear T3 k3
        go_wp2_with fail
        exact ⟨⟨i + 1, d ++ xb.data.toList, by go_num, by omega, by have := HBL.out; rw [List.length_append]; omega, HST.out.symm, by rw [List.length_append, HBL.out]; exact HT3.out, HK3.out⟩, by simp [intOf]; omega⟩
      · rw [if_neg hk, List.append_nil] at hst
        have hkb : (xk == 1) = false := by rw [beq_eq_false_iff_ne]; exact hk
        have HST := Lib.hid hst
        clear hst hk
        go_wp2_with fail
        exact ⟨⟨i + 1, d, by go_num, by omega, by omega, HST.out.symm, HI.out.2.1.same HKA.out, HI.out.2.2.trans HKA.out⟩, by simp [intOf]; omega⟩
    · have hh : d = dataP l := by rw [HI.out.1, List.take_of_length_le (by rw [HNL.out]; omega)]
      have HX := Lib.hid hh
      clear hh
      go_wp2_with fail
      go_ret2
      exact ⟨⟨t, g, b, rfl, ht, hg, hb, by rw [← HX.out]; exact HI.out.2.1⟩, HI.out.2.2⟩
end Go.Proofs.YtkmpdobojgiegaaGreatDoor

/-
  digit.Read: the number that a text tells in decimal.
-/
namespace Go.Proofs.YtkmpdobojgiegaaGreatDoor
open Go.RowKit

def digB (c : UInt8) : Bool := decide (48 ≤ c.toNat) && decide (c.toNat ≤ 57)
theorem digB_iff {c : UInt8} : digB c = true ↔ 48 ≤ c.toNat ∧ c.toNat ≤ 57 := by unfold digB; simp
theorem decN_all (n : Nat) : (decN n).all digB = true := List.all_eq_true.2 fun c hc => digB_iff.2 (decN_dig n c hc)
theorem decN_head : ∀ (n : Nat), 1 ≤ n → (decN n)[0]? ≠ some 48 := by
  intro n
  induction n using Nat.strongRecOn with
  | ind n ih =>
    intro hn
    by_cases h : n < 10
    · rw [decN_small h]
      simp only [List.getElem?_cons_zero, ne_eq, Option.some.injEq]
      intro e
      have := congrArg UInt8.toNat e
      rw [digc_nat h] at this
      have h48 : (48 : UInt8).toNat = 48 := rfl
      omega
    · rw [decN_big (by omega), List.getElem?_append_left (decN_pos _)]
      exact ih (n / 10) (by omega) (by omega)
theorem valI_all : ∀ (k : Nat) (l : List UInt8), l.length = k → l.all digB = true → 0 ≤ valI l
  | 0, l, h, _ => by obtain rfl := List.eq_nil_of_length_eq_zero h; exact Int.le_refl _
  | k + 1, l, h, ha => by
    obtain ⟨m, c, rfl⟩ : ∃ m c, l = m ++ [c] := ⟨l.dropLast, l.getLast (by intro e; rw [e] at h; cases h), (List.dropLast_concat_getLast _).symm⟩
    rw [List.all_append, Bool.and_eq_true] at ha
    have ih := valI_all k m (by simpa using h) ha.1
    have hc := digB_iff.1 (by simpa using ha.2)
    rw [valI_snoc]
    omega
/-- digits, without a nought ahead, are those of the number that they tell -/
theorem dec_val : ∀ (k : Nat) (l : List UInt8), l.length = k + 1 → l.all digB = true → (k = 0 ∨ l[0]? ≠ some 48) → decN (valI l).toNat = l ∧ (l[0]? ≠ some 48 → 1 ≤ valI l)
  | 0, l, h, ha, _ => by
    obtain ⟨c, rfl⟩ := List.length_eq_one_iff.1 h
    have hc := digB_iff.1 (by simpa using ha)
    have e : valI [c] = (c.toNat : Int) - 48 := by simp [valI]
    have hn : (valI [c]).toNat < 10 := by rw [e]; omega
    refine ⟨?_, fun h48 => ?_⟩
    · rw [decN_small hn]
      congr 1
      apply UInt8.toNat_inj.1
      rw [digc_nat hn, e]
      omega
    · rw [e]
      have : c.toNat ≠ 48 := fun e2 => h48 (by simp; exact UInt8.toNat_inj.1 e2)
      omega
  | k + 1, l, h, ha, h0 => by
    obtain ⟨m, c, rfl⟩ : ∃ m c, l = m ++ [c] := ⟨l.dropLast, l.getLast (by intro e; rw [e] at h; cases h), (List.dropLast_concat_getLast _).symm⟩
    have hm : m.length = k + 1 := by simpa using h
    have h48 : m[0]? ≠ some 48 := by
      rcases h0 with h0 | h0
      · omega
      · rwa [List.getElem?_append_left (by omega)] at h0
    rw [List.all_append, Bool.and_eq_true] at ha
    have hc := digB_iff.1 (by simpa using ha.2)
    obtain ⟨i1, i2⟩ := dec_val k m hm ha.1 (.inr h48)
    have hv := i2 h48
    have e := valI_snoc m c
    have e10 : (valI (m ++ [c])).toNat = 10 * (valI m).toNat + (c.toNat - 48) := by rw [e]; omega
    refine ⟨?_, fun _ => by rw [e]; omega⟩
    rw [e10, decN_big (by omega), show (10 * (valI m).toNat + (c.toNat - 48)) / 10 = (valI m).toNat by omega, show (10 * (valI m).toNat + (c.toNat - 48)) % 10 = c.toNat - 48 by omega, i1]
    congr 2
    apply UInt8.toNat_inj.1
    rw [digc_nat (by omega)]
    omega
/-! what digit.Read tells, by its tests -/
theorem tickV_bad {l : List UInt8} (h : tickB l = false) : tickV l = .tuple #[.int .i64 0, .int .i64 3] := by unfold tickV; rw [if_neg (by rw [h]; simp)]
theorem tick_no {l : List UInt8} (h : ∀ v : Nat, v ≤ 1099511627776 → decN v ≠ l) : tickB l = false := by
  unfold tickB
  by_cases h0 : 0 ≤ valI (l.take 14)
  · by_cases h1 : valI (l.take 14) ≤ 1099511627776
    · have := h (valI (l.take 14)).toNat (by omega)
      rw [decide_eq_false (p := dec (valI (l.take 14)) = l) (by rw [dec_pos h0]; exact this)]
      simp
    · rw [decide_eq_false h1]; simp
  · rw [decide_eq_false h0]; simp
theorem decN_13 {v : Nat} (h : v ≤ 1099511627776) : (decN v).length ≤ 13 := decN_len v 12 (by have e : 10 ^ (12 + 1) = 10000000000000 := by decide
                                                                                              omega)
theorem tick_nil {l : List UInt8} (h : l.length = 0) : tickB l = false := tick_no fun v _ e => by have := decN_pos v; rw [e] at this; omega
theorem tick_long {l : List UInt8} (h : 13 < l.length) : tickB l = false := tick_no fun v hv e => by have := decN_13 hv; rw [e] at this; omega
theorem tick_nought {l : List UInt8} (h : l[0]? = some 48) (h1 : 1 < l.length) : tickB l = false := tick_no fun v hv e => by
  rcases Nat.eq_zero_or_pos v with h0 | h0
  · rw [h0, decN_small (by omega)] at e
    rw [← e] at h1
    simp at h1
  · exact decN_head v h0 (by rw [e]; exact h)
theorem tick_odd {l : List UInt8} {i : Nat} {c : UInt8} (h : l[i]? = some c) (hc : digB c = false) : tickB l = false := tick_no fun v hv e => by
  have := List.all_eq_true.1 (decN_all v) c (by rw [e]; exact List.mem_of_getElem? h)
  rw [hc] at this
  cases this
theorem tick_big {l : List UInt8} (hl : l.length ≤ 13) (h : 1099511627776 < valI l) : tickB l = false := by
  unfold tickB
  rw [List.take_of_length_le (by omega), decide_eq_false (p := valI l ≤ 1099511627776) (by omega)]
  simp
theorem tick_good {l : List UInt8} {k : Nat} (hk : l.length = k + 1) (hl : l.length ≤ 13) (ha : l.all digB = true) (h0 : k = 0 ∨ l[0]? ≠ some 48) (h : valI l ≤ 1099511627776) : tickV l = .tuple #[.int .i64 (valI l), .int .i64 0] := by
  have hp := valI_all l.length l rfl ha
  have hd := (dec_val k l hk ha h0).1
  have ht : tickB l = true := by
    unfold tickB
    rw [List.take_of_length_le (by omega), decide_eq_true hp, decide_eq_true h, decide_eq_true (by rw [dec_pos hp]; exact hd)]
    rfl
  unfold tickV
  rw [if_pos ht, List.take_of_length_le (by omega)]
def ReadJ (w : World) (s : ByteArray) (l : List UInt8) (a : Act) (w' : World) : Prop :=
  ∃ (i : Nat) (h : Int) (u1 u2 u3 u6 u7 u8 u9 u10 u11 u12 u13 u14 u15 u16 u17 u18 u19 u20 u21 u22 u23 u24 u25 u26 u27 u28 u29 u30 u31 u32 u33 u34 u35 u36 u37 u38 u39 u40 u41 u42 u43 u44 u45 u46 u47 u48 u49 : Value), a = ⟨#[.string s, u1, u2, u3, .int .i64 h, .int .i64 (i : Nat), u6, u7, u8, u9, u10, u11, u12, u13, u14, u15, u16, u17, u18, u19, u20, u21, u22, u23, u24, u25, u26, u27, u28, u29, u30, u31, u32, u33, u34, u35, u36, u37, u38, u39, u40, u41, u42, u43, u44, u45, u46, u47, u48, u49], []⟩ ∧ w = w' ∧ i < s.size ∧ 0 ≤ h ∧ h ≤ 2300000000000000 ∧ h = valI (l.take i) ∧ (l.take i).all digB = true
def ReadM (s : ByteArray) (a : Act) (_w : World) : Nat := s.size - (intOf (a.tmps.getD 5 undef)).toNat
set_option maxRecDepth 100000 in
set_option maxHeartbeats 2000000 in
theorem dread_any (w : World) (s : ByteArray) (hs : s.size ≤ 4611686018427387904) : Calls Tryz.prog 217 #[.string s] w fun e w' => e = .returned (tickV s.data.toList) ∧ w' = w := by
  have hlen : s.data.toList.length = s.size := by simp
  obtain ⟨l, hl⟩ : ∃ l, l = s.data.toList := ⟨_, rfl⟩
  rw [← hl] at hlen ⊢
  have hget : ∀ (k : Nat) c, l[k]? = some c → ∀ h, s[k]'h = c := by
    intro k c hc h
    rw [hl] at hc
    rw [← (List.getElem?_eq_some_iff.1 hc).2]; rfl
  obtain ⟨V, hV⟩ : ∃ V, V = tickV l := ⟨_, rfl⟩
  rw [← hV]
  have HV := Lib.hid hV
  have HL := Lib.hid hl
  have HN := Lib.hid hlen
  have HG := Lib.hid hget
  clear hV hl hlen hget
  have hbad : tickB l = false → V = .tuple #[.int .i64 0, .int .i64 3] := fun h => by rw [HV.out]; exact tickV_bad h
  have HB := Lib.hid hbad
  clear hbad
  by_cases h0 : s.size = 0
  · obtain rfl : s = ⟨#[]⟩ := by apply ba_ext; exact List.eq_nil_of_length_eq_zero (by simpa using h0)
    have HV2 := Lib.hid (HB.out (tick_nil (by rw [HN.out]; exact h0)))
    clear h0
    go_enter Tryz.func217, Tryz.ntmps217
    go_wp2_with fail
    (try go_step3)
    go_wp2_with fail
    (try rw [Exit.noGoto_ret])
    go_ret2
    exact ⟨by rw [HV2.out]; rfl, rfl⟩
  · have hsne : s.toList.isEmpty = false := by
      rw [ByteArray.toList_eq, ← HL.out]
      cases hq : l with
      | nil => rw [hq] at HN; exact absurd HN.out.symm h0
      | cons a t => rfl
    by_cases h13 : 13 < s.size
    · have HV2 := Lib.hid (HB.out (tick_long (by rw [HN.out]; exact h13)))
      have h13i : (13 : Int) < s.size := by omega
      clear h0 h13
      go_enter Tryz.func217, Tryz.ntmps217
      go_wp2_with fail
      (try go_step3)
      go_wp2_with fail
      (try rw [Exit.noGoto_ret])
      go_ret2
      exact ⟨by rw [HV2.out]; rfl, rfl⟩
    · have h13i : ¬ (13 : Int) < s.size := by omega
      obtain ⟨c, hc⟩ : ∃ c, l[0]? = some c := ⟨_, List.getElem?_eq_getElem (by rw [HN.out]; omega)⟩
      have hsc := HG.out 0 c hc
      have HC := Lib.hid hc
      clear hc
      by_cases hz : c = 48 ∧ 1 < s.size
      · obtain ⟨rfl, hz⟩ := hz
        have HV2 := Lib.hid (HB.out (tick_nought HC.out (by rw [HN.out]; exact hz)))
        have hzi : (1 : Int) < s.size := by omega
        clear h0 h13 hz
        go_enter Tryz.func217, Tryz.ntmps217
        go_wp2_with fail
        (try go_step3)
        go_wp2_with fail
        (try rw [Exit.noGoto_ret])
        go_ret2
        exact ⟨by rw [HV2.out]; rfl, rfl⟩
      · have hzz : ((c.toNat : Int) == 48) = false ∨ (c = 48 ∧ ¬ (1 : Int) < s.size) := by
          by_cases h48 : c = 48
          · exact .inr ⟨h48, by have : ¬ 1 < s.size := fun hh => hz ⟨h48, hh⟩; omega⟩
          · left; rw [beq_eq_false_iff_ne]; intro e; exact h48 (UInt8.toNat_inj.1 (by show c.toNat = 48; omega))
        have hk0 : s.size - 1 = 0 ∨ l[0]? ≠ some 48 := by
          by_cases h48 : c = 48
          · left; have : ¬ 1 < s.size := fun hh => hz ⟨h48, hh⟩; omega
          · right; rw [HC.out]; exact fun e => h48 (Option.some.inj e)
        have HK0 := Lib.hid hk0
        have h13n : s.size ≤ 13 := by omega
        have hs1 : 1 ≤ s.size := by omega
        clear h0 h13 hz hk0
        rcases hzz with hzz | ⟨rfl, hzz⟩
        all_goals
          go_enter Tryz.func217, Tryz.ntmps217
          go_wp2_with fail
          refine wp_scope_both 0 (ReadJ w s l) (ReadM s) rfl ?pass ?first
          case pass =>
            rintro a w1 ⟨i, h, u1, u2, u3, u6, u7, u8, u9, u10, u11, u12, u13, u14, u15, u16, u17, u18, u19, u20, u21, u22, u23, u24, u25, u26, u27, u28, u29, u30, u31, u32, u33, u34, u35, u36, u37, u38, u39, u40, u41, u42, u43, u44, u45, u46, u47, u48, u49, rfl, rfl, hi, hh0, hh1, hhv, hall⟩
            have HHV := Lib.hid hhv
            have HAL := Lib.hid hall
            obtain ⟨d, hd⟩ : ∃ d, l[i]? = some d := ⟨_, List.getElem?_eq_getElem (by rw [HN.out]; exact hi)⟩
            have hsd := HG.out i d hd
            have HD := Lib.hid hd
            have hdl := d.toNat_lt
            have hdl2 : (d.toNat : Int) ≤ 255 := by omega
            clear hhv hall hd hsc hdl
            by_cases hlo : (d.toNat : Int) < 48
            · have HV2 := Lib.hid (HB.out (tick_odd HD.out (by unfold digB; rw [decide_eq_false (by omega)]; rfl)))
              go_wp2_with fail
              simp only [Exit.jump]
              go_ret2
              exact ⟨by rw [HV2.out]; rfl, rfl⟩
            · by_cases hhi : (57 : Int) < d.toNat
              · have HV2 := Lib.hid (HB.out (tick_odd HD.out (by unfold digB; rw [decide_eq_false (p := d.toNat ≤ 57) (by omega)]; simp)))
                go_wp2_with fail
                simp only [Exit.jump]
                go_ret2
                exact ⟨by rw [HV2.out]; rfl, rfl⟩
              · have hst := valI_take HD.out
                rw [← HHV.out] at hst
                have hbb := valI_le (l := l.take (i + 1)) (by rw [List.length_take]; omega)
                rw [hst] at hbb
                have hal2 : (l.take (i + 1)).all digB = true := by
                  rw [List.take_add_one, HD.out, List.all_append, HAL.out]
                  simp only [Option.toList_some, List.all_cons, List.all_nil, Bool.and_true, Bool.true_and]
                  exact digB_iff.2 ⟨by omega, by omega⟩
                have hu8 : IntKind.u8.wrap ((d.toNat : Int) - 48) = (d.toNat : Int) - 48 := by
                  rw [IntKind.wrap_u8]; omega
                have HST := Lib.hid hst
                have HAL2 := Lib.hid hal2
                obtain ⟨hb1, hb2⟩ := hbb
                clear hst hal2
                by_cases hmore : i + 1 < s.size
                · have hmi : (i : Int) + 1 < s.size := by omega
                  go_wp2_with fail
                  go_step3
                  refine And.intro rfl (And.intro ⟨i + 1, 10 * h + ((d.toNat : Int) - 48), _, _, _, _, _, _, _, _, _, _, _, _, _, _, _, _, _, _, _, _, _, _, _, _, _, _, _, _, _, _, _, _, _, _, _, _, _, _, _, _, _, _, _, _, _, _, _, rfl, rfl, by omega, by omega, by omega, by rw [HST.out]; omega, HAL2.out⟩ ?_)
                  simp [ReadM, intOf]
                  omega
                · have hmi : ¬ (i : Int) + 1 < s.size := by omega
                  have hfull : l.take (i + 1) = l := List.take_of_length_le (by rw [HN.out]; omega)
                  have hst2 := HST.out
                  rw [hfull] at hst2
                  have hal3 := HAL2.out
                  rw [hfull] at hal3
                  have HST2 := Lib.hid hst2
                  have HAL3 := Lib.hid hal3
                  clear hst2 hal3 hfull
                  by_cases hbig : 1099511627776 < 10 * h + (d.toNat : Int) - 48
                  · have HV2 := Lib.hid (HB.out (tick_big (by rw [HN.out]; omega) (by rw [HST2.out]; omega)))
                    have hbig2 : 1099511627776 < 10 * h + ((d.toNat : Int) - 48) := by omega
                    go_wp2_with fail
                    simp only [Exit.jump]
                    go_ret2
                    exact ⟨by rw [HV2.out]; rfl, rfl⟩
                  · have hV2 : V = .tuple #[.int .i64 (10 * h + ((d.toNat : Int) - 48)), .int .i64 0] := by
                      rw [HV.out, tick_good (k := s.size - 1) (by rw [HN.out]; omega) (by rw [HN.out]; omega) HAL3.out HK0.out (by rw [HST2.out]; omega), HST2.out]
                      rw [show 10 * h + ((d.toNat : Int) - 48) = 10 * h + (d.toNat : Int) - 48 by omega]
                    have HV2 := Lib.hid hV2
                    have hbig2 : ¬ 1099511627776 < 10 * h + ((d.toNat : Int) - 48) := by omega
                    clear hV2
                    go_wp2_with fail
                    simp only [Exit.jump]
                    go_ret2
                    exact ⟨by rw [HV2.out]; rfl, rfl⟩
          case first =>
            intro hpass
            go_wp2_with fail
            refine wp_label ?_
            rename_i hk
            exact hk _ _ (hpass.out _ _ ⟨0, 0, _, _, _, _, _, _, _, _, _, _, _, _, _, _, _, _, _, _, _, _, _, _, _, _, _, _, _, _, _, _, _, _, _, _, _, _, _, _, _, _, _, _, _, _, _, _, _, rfl, rfl, by omega, by omega, by omega, rfl, rfl⟩)
end Go.Proofs.YtkmpdobojgiegaaGreatDoor
