/-
  console: Came.
-/
import Derived.Test.YtkmpdobojgiegaaGreatDoorQConsC
namespace Go.Proofs.YtkmpdobojgiegaaGreatDoor
open Go.RowKit

def szV : Value → Nat
  | .string s => s.size
  | _ => 0
/-- behind what a line told -/
def cameC (mst : Int) (now : Int) (bad : Nat) (l : List SFile) (x : Cns) (s : List UInt8) : Cns × Jp × Bool :=
  if x.m.st < 3 ∨ s = [] then (x, ⟨bad, l, x.rest, x.lost⟩, false)
  else ({ x with past := x.past ++ s, rest := (putsJ mst (baseOf x.c) x.c.gens.toNat x.c.size.toNat now ⟨bad, l, x.rest, x.lost⟩ (chunksOf s)).rest, lost := (putsJ mst (baseOf x.c) x.c.gens.toNat x.c.size.toNat now ⟨bad, l, x.rest, x.lost⟩ (chunksOf s)).lost }, putsJ mst (baseOf x.c) x.c.gens.toNat x.c.size.toNat now ⟨bad, l, x.rest, x.lost⟩ (chunksOf s), true)
theorem ext_min2 (t : ByteArray) : t.extract 4096 t.size = t.extract (min (t.size : Int) 4096).toNat t.size := by
  have h : t.data.toList.length = t.size := by simp
  apply ba_ext
  rw [ext_list, ext_list]
  by_cases hb : t.size ≤ 4096
  · rw [show (min (t.size : Int) 4096).toNat = t.size by omega, List.drop_of_length_le (by omega), List.drop_of_length_le (by omega)]
  · rw [show (min (t.size : Int) 4096).toNat = 4096 by omega]
section
variable {w0 w w' w1 : World} {F G S FT : Nat → Prop} {tag : Nat → Nat} {xb st lb sb pb g b jb n : Nat} {x : Cns} {most : Int} {bad : Nat} {l : List SFile}
theorem StoF.mono (h : StoF w0 w F st most bad l n) (hG : ∀ i, F i → G i) (hb : ∀ i, G i → w0.heap.size ≤ i ∧ i < w.heap.size) : StoF w0 w G st most bad l n := by
  obtain ⟨M, L, hL, hF, ⟨ety, keeps, store, res, fit, len, hn, hbd, m1, m2⟩⟩ := h
  exact ⟨M, L, hL, hb, @Sto.mk (resF w G) _ _ _ _ _ _ _ _ ety keeps (store.below_.mono fun i hi => ⟨hi.1.1, fun e => e.2 (hG i (by
    by_cases h2 : F i
    · exact h2
    · exact absurd ⟨hi.2, h2⟩ hi.1.2))⟩) (fun i hi => hi.1) fit len hn hbd m1 m2⟩
theorem StoF.ext (h : StoF w0 w' (Ext (Ext F w1 w) w w') st most bad l n) (h1 : w1.heap.size ≤ w.heap.size) (h2 : w.heap.size ≤ w'.heap.size) (h0 : w0.heap.size ≤ w1.heap.size) (hF : ∀ i, F i → w0.heap.size ≤ i ∧ i < w1.heap.size) : StoF w0 w' (Ext F w1 w') st most bad l n :=
  h.mono (fun i hi => hi.twice h1 h2) (fun i hi => hi.elim (fun e => ⟨(hF i e).1, by have := (hF i e).2; omega⟩) (fun e => ⟨by omega, e.2⟩))
theorem LogF.ext {jp : Jp} {base : ByteArray} {k size : Nat} (h : LogF w0 w' (Ext (Ext F w1 w) w w') st jb most base k size jp n) (h1 : w1.heap.size ≤ w.heap.size) (h2 : w.heap.size ≤ w'.heap.size) (h0 : w0.heap.size ≤ w1.heap.size) (hF : ∀ i, F i → w0.heap.size ≤ i ∧ i < w1.heap.size) : LogF w0 w' (Ext F w1 w') st jb most base k size jp n := ⟨h.1.ext h1 h2 h0 hF, h.2⟩
theorem LogF.same {jp : Jp} {base : ByteArray} {k size : Nat} (h : LogF w0 w F st jb most base k size jp n) (kk : Keeps (fun _ => False) w w') : LogF w0 w' F st jb most base k size jp n := ⟨h.1.keeps kk (fun _ _ h => h) (fun _ _ h => h), h.2.1.keeps kk (fun h => h), h.2.2⟩
/-- in the midst of writing down: what is left, the log so far -/
def CameI (w0 w1 : World) (FT : Nat → Prop) (st jb n : Nat) (most : Int) (base : ByteArray) (k size : Nat) (now : Int) (P : Nat) (T : Jp) (r : List UInt8) (wr : World) : Prop :=
  ∃ (f p : Nat) (j : Jp), r.length ≤ f ∧ putsJ most base k size now j (chunks f r) = T ∧ LogF w0 wr (Ext FT w1 wr) st jb most base k size j (n + 19 * p) ∧ Keeps (fun i => FT i ∨ i = jb) w1 wr ∧ p + (chunks f r).length = P ∧ j.lost + (chunks f r).length ≤ 1000000
set_option maxRecDepth 100000 in
set_option maxHeartbeats 400000 in
theorem ccame (h : ConsV w F tag xb st x lb sb pb g b jb) (hS : StoF w0 w FT st most bad l n) (hap : Apart F FT) (hlo : ∀ i, F i → w0.heap.size ≤ i) (hbn : (baseOf x.c).size ≤ 64) (now : Int) (hnow : 0 ≤ now ∧ now ≤ 1099511627776) (s : List UInt8) (hs : s.length ≤ 1048576)
    (hn : n + 19 * (chunksOf s).length ≤ 999000) (hll : x.lost + (chunksOf s).length ≤ 1000000) (hA : x.past.length + s.length ≤ 2305843009213693952) :
    Calls Tryz.prog 15 #[.pointer (some ⟨xb, 0, none⟩), .int .i64 now, .string (str s)] w fun e w' =>
    e = .returned (.bool (cameC most now bad l x s).2.2) ∧ ConsV w' F tag xb st (cameC most now bad l x s).1 lb sb pb g b jb ∧
    StoF w0 w' (Ext FT w w') st most (cameC most now bad l x s).2.1.bad (cameC most now bad l x s).2.1.l (n + 19 * (chunksOf s).length) ∧ Keeps (fun i => FT i ∨ F i) w w' := by
  have HV := Lib.hid h
  have HM := Lib.hid (cmade h)
  have HST := Lib.hid (lstate h.line)
  have HAP := Lib.hid hap
  have HLO := Lib.hid hlo
  obtain ⟨c0, c1, c2, c3, c4⟩ := h.cells
  obtain ⟨T, hT⟩ : ∃ T, T = cameC most now bad l x s := ⟨_, rfl⟩
  rw [← hT]
  have HT := Lib.hid (show T = if x.m.st < 3 ∨ s = [] then (x, ⟨bad, l, x.rest, x.lost⟩, false) else ({ x with past := x.past ++ s, rest := (putsJ most (baseOf x.c) x.c.gens.toNat x.c.size.toNat now ⟨bad, l, x.rest, x.lost⟩ (chunksOf s)).rest, lost := (putsJ most (baseOf x.c) x.c.gens.toNat x.c.size.toNat now ⟨bad, l, x.rest, x.lost⟩ (chunksOf s)).lost }, putsJ most (baseOf x.c) x.c.gens.toNat x.c.size.toNat now ⟨bad, l, x.rest, x.lost⟩ (chunksOf s), true) from hT)
  have HSS := Lib.hid (show StoF w0 w (Ext FT w w) st most bad l (n + 19 * (chunksOf s).length) from (hS.mono (fun i hi => .inl hi) (fun i hi => hi.elim (fun e => ⟨hS.lo i e, hS.inn i e⟩) (fun e => by omega))).le_n (by omega) (by omega))
  clear hT
  by_cases h3 : x.m.st < 3
  · have HTT : Hid (T = (x, ⟨bad, l, x.rest, x.lost⟩, false)) := Lib.hid (by rw [HT.out, if_pos (.inl h3)])
    obtain ⟨sst, hst⟩ : ∃ sst, sst = x.m.st := ⟨_, rfl⟩
    rw [← hst] at HST h3
    clear h hS hap hlo hn hll hA hst hbn hnow
    go_enter Tryz.func15, Tryz.ntmps15
    go_wp2_with fail
    refine HM.out.mono ?_
    rintro e w2 ⟨rfl, hw⟩
    obtain rfl : w = w2 := hw.symm
    go_wp2_with fail
    refine HST.out.mono ?_
    rintro e w2 ⟨rfl, hw⟩
    obtain rfl : w = w2 := hw.symm
    go_wp2_with fail
    go_ret
    rw [HTT.out]
    exact ⟨rfl, HV.out, HSS.out, Keeps.refl _ _⟩
  · by_cases hse : s = []
    · have HTT : Hid (T = (x, ⟨bad, l, x.rest, x.lost⟩, false)) := Lib.hid (by rw [HT.out, if_pos (.inr hse)])
      obtain ⟨sst, hst⟩ : ∃ sst, sst = x.m.st := ⟨_, rfl⟩
      rw [← hst] at HST h3
      have he : (str s).toList.isEmpty = true := by rw [str_emp]; simp [hse]
      clear h hS hap hlo hn hll hA hst hbn hnow hse
      go_enter Tryz.func15, Tryz.ntmps15
      go_wp2_with fail
      refine HM.out.mono ?_
      rintro e w2 ⟨rfl, hw⟩
      obtain rfl : w = w2 := hw.symm
      go_wp2_with fail
      refine HST.out.mono ?_
      rintro e w2 ⟨rfl, hw⟩
      obtain rfl : w = w2 := hw.symm
      go_wp2_with fail
      go_ret
      rw [HTT.out]
      exact ⟨rfl, HV.out, HSS.out, Keeps.refl _ _⟩
    · have hTT : T = ({ x with past := x.past ++ s, rest := (putsJ most (baseOf x.c) x.c.gens.toNat x.c.size.toNat now ⟨bad, l, x.rest, x.lost⟩ (chunksOf s)).rest, lost := (putsJ most (baseOf x.c) x.c.gens.toNat x.c.size.toNat now ⟨bad, l, x.rest, x.lost⟩ (chunksOf s)).lost }, putsJ most (baseOf x.c) x.c.gens.toNat x.c.size.toNat now ⟨bad, l, x.rest, x.lost⟩ (chunksOf s), true) := by rw [HT.out, if_neg (fun e => e.elim h3 hse)]
      obtain ⟨J, hJ⟩ : ∃ J, J = putsJ most (baseOf x.c) x.c.gens.toNat x.c.size.toNat now ⟨bad, l, x.rest, x.lost⟩ (chunksOf s) := ⟨_, rfl⟩
      rw [← hJ] at hTT
      have HTT := Lib.hid hTT
      have HJ := Lib.hid hJ
      obtain ⟨sst, hst⟩ : ∃ sst, sst = x.m.st := ⟨_, rfl⟩
      rw [← hst] at HST h3
      have he : (str s).toList.isEmpty = false := by rw [str_emp]; simp [hse]
      have HP := Lib.hid (padd_any w pb g b 32768 x.past (str s) h.past (by rw [str_size]; unfold maxLen; omega) (by rw [str_size]; exact hA))
      have HS0 := Lib.hid hS
      have HN := Lib.hid hn
      have HLL := Lib.hid hll
      have HBN := Lib.hid hbn
      have HNOW := Lib.hid hnow
      have HSL := Lib.hid hs
      clear h hS hap hlo hn hll hA hst hbn hnow hse hTT hJ hs
      go_enter Tryz.func15, Tryz.ntmps15
      go_wp2_with fail
      refine HM.out.mono ?_
      rintro e w2 ⟨rfl, hw⟩
      obtain rfl : w = w2 := hw.symm
      go_wp2_with fail
      refine HST.out.mono ?_
      rintro e w2 ⟨rfl, hw⟩
      obtain rfl : w = w2 := hw.symm
      go_wp2_with fail
      refine HP.out.mono ?_
      rintro e w1 ⟨rfl, k1, hp1⟩
      have hV1 := HV.out.told hp1 k1
      have kF1 : Keeps F w w1 := k1.mono fun i _ e => by rcases e with rfl | rfl | rfl; exact HV.out.pp.1.1; exact HV.out.pp.2.1.1; exact HV.out.pp.2.2.1
      have hS1 := HS0.out.keeps kF1 (fun i hi e => HAP.out i e hi) (fun i hi e => by have := HLO.out i e; omega)
      have hL1 : LogF w0 w1 (Ext FT w1 w1) st jb most (baseOf x.c) x.c.gens.toNat x.c.size.toNat ⟨bad, l, x.rest, x.lost⟩ (n + 19 * 0) := ⟨hS1.mono (fun i hi => .inl hi) (fun i hi => hi.elim (fun e => ⟨hS1.lo i e, hS1.inn i e⟩) (fun e => by omega)), hV1.log, HLO.out _ HV.out.pj.1⟩
      obtain ⟨-, -, -, -, d4⟩ := hV1.cells
      have HI1 := Lib.hid (show CameI w0 w1 FT st jb n most (baseOf x.c) x.c.gens.toNat x.c.size.toNat now (chunksOf s).length J s w1 from ⟨s.length, 0, _, Nat.le_refl _, HJ.out.symm, hL1, Keeps.refl _ _, Nat.zero_add _, HLL.out⟩)
      have HV1 := Lib.hid hV1
      have HK1 := Lib.hid kF1
      have HS1 := Lib.hid hS1
      clear k1 hp1 kF1 hL1 c0 c1 c2 c3 c4 hV1 hS1
      go_wp2_with fail
      go_loopw [2] (fun u2 wr => ∃ r : List UInt8, u2 = .string (str r) ∧ Hid (r.length ≤ 1048576 ∧ CameI w0 w1 FT st jb n most (baseOf x.c) x.c.gens.toNat x.c.size.toNat now (chunksOf s).length J r wr)) (fun u2 _ => szV u2)
      case atStart => exact ⟨s, rfl, Lib.hid ⟨HSL.out, HI1.out⟩⟩
      case round =>
        obtain ⟨r, rfl, HI⟩ := hrel
        have hrl := HI.out.1
        by_cases hr : r = []
        · have he2 : (str r).toList.isEmpty = true := by rw [str_emp]; simp [hr]
          have HR := Lib.hid hr
          clear hr
          go_wp2_with fail
          go_ret
          rw [HTT.out]
          obtain ⟨f, p, j, h1, h2, h3, h4, h5, h6⟩ := HI.out.2
          have hc : chunks f r = [] := by rw [HR.out]; cases f <;> rfl
          rw [hc] at h2 h5
          have h2 : j = J := h2
          subst h2
          have hp : p = (chunksOf s).length := h5
          rw [hp] at h3
          have hsz := HK1.out.size
          refine ⟨rfl, HV1.out.logged h3.2.1 h4 HAP.out, (h3.1.mono (fun i hi => hi.imp id (fun e => ⟨by omega, e.2⟩)) (fun i hi => hi.elim (fun e => ⟨HS0.out.lo i e, by have := HS0.out.inn i e; have := h4.size; omega⟩) (fun e => ⟨by have := HS0.out.from_.size; omega, e.2⟩))), (HK1.out.mono (T := fun i => FT i ∨ F i) (fun i _ e => .inr e)).trans (h4.mono fun i _ e => e.imp id (fun e => by rw [e]; exact HV.out.pj.1))⟩
        · have he2 : (str r).toList.isEmpty = false := by rw [str_emp]; simp [hr]
          obtain ⟨f, p, j, h1, h2, h3, h4, h5, h6⟩ := HI.out.2
          obtain ⟨f', rfl⟩ : ∃ f', f = f' + 1 := by
            cases f with
            | zero => exact absurd (List.eq_nil_of_length_eq_zero (by omega)) hr
            | succ f' => exact ⟨f', rfl⟩
          have hck : chunks (f' + 1) r = r.take 4096 :: chunks f' (r.drop 4096) := by rw [chunks, if_neg hr]
          have hrp : 0 < r.length := List.length_pos_iff.2 hr
          rw [hck, List.length_cons] at h5 h6
          rw [hck] at h2
          have hVr := HV1.out.logged h3.2.1 h4 HAP.out
          obtain ⟨-, -, -, -, dr⟩ := hVr.cells
          have hJ := fun W (k : Keeps (fun _ => False) wr W) => jaddF (h3.same k) (by have := HN.out; omega) HBN.out (by omega) ⟨1, now, str (r.take 4096)⟩ (dataI_ok HNOW.out (by rw [List.length_take]; omega))
          obtain ⟨R, hR⟩ : ∃ R, R = addJ most (baseOf x.c) x.c.gens.toNat x.c.size.toNat j ⟨1, now, str (r.take 4096)⟩ := ⟨_, rfl⟩
          have hnext : R.1.lost ≤ j.lost + 1 := by rw [hR]; exact add_lost _ _ _ _ _ _
          have h2 : putsJ most (baseOf x.c) x.c.gens.toNat x.c.size.toNat now R.1 (chunks f' (r.drop 4096)) = J := by rw [hR]; exact h2
          rw [← hR] at hJ
          unfold itmV at hJ
          simp only at hJ
          have hdl : (r.drop 4096).length ≤ f' := by rw [List.length_drop]; omega
          have hdl2 : (r.drop 4096).length ≤ 1048576 := by rw [List.length_drop]; omega
          have hx1 := (strx_take r 4096).symm.trans (ext_min (str r))
          have hx2 := (strx_drop r 4096).symm.trans (ext_min2 (str r))
          have hlt : szV (.string (str (r.drop 4096))) < szV (.string (str r)) := by show (str (r.drop 4096)).size < (str r).size; rw [str_size, str_size, List.length_drop]; omega
          rw [hx2] at hlt
          rw [hx1] at hJ
          have hzz : (str r).size ≤ 1048576 := by rw [str_size]; exact hrl
          have HX2 := Lib.hid hx2
          have HJ2 := Lib.hid hJ
          have HLT := Lib.hid hlt
          have HC2 := Lib.hid (And.intro hdl (And.intro hdl2 (And.intro h2 (And.intro h5 (And.intro h6 hnext)))))
          have HVR := Lib.hid hVr
          have HH := Lib.hid (And.intro h3 h4)
          have HW1 := Lib.hid (show w0.heap.size ≤ w1.heap.size ∧ ∀ i, FT i → w0.heap.size ≤ i ∧ i < w1.heap.size from ⟨HS1.out.from_.size, fun i hi => ⟨HS1.out.lo i hi, HS1.out.inn i hi⟩⟩)
          clear hR hck hrp h1 h2 h3 h4 h5 h6 hVr hJ hnext hdl hdl2 hx1 hx2 hlt HI hr d4 hrl
          obtain ⟨t, ht⟩ : ∃ t, t = str r := ⟨_, rfl⟩
          rw [← ht] at he2 HX2 HJ2 HLT hzz ⊢
          clear ht
          have hm1 : (0 : Int) ≤ min (t.size : Int) 4096 := by omega
          have hm2 : min (t.size : Int) 4096 ≤ (t.size : Int) := by omega
          go_wp2_with fail
          go_region_held3 (fun w2 => w2.cell? ⟨xb, 13, none⟩ = some (.pointer (some ⟨jb, 0, none⟩)))
            ((first | exact dr | exact d4))
            ((go_at_call 64; refine (HJ2.out _ (by (repeat (first | (with_reducible assumption) | (with_reducible exact Keeps.refl _ _) | refine Keeps.drew ?_ | refine Keeps.drewN ?_ _ | refine Keeps.setCell ?_ (by simp) _ | refine Keeps.setRow ?_ (by simp) _ | refine Keeps.alloc ?_ _)))).mono ?_; rintro e w3 ⟨rfl, hL3, k3⟩; have k3 := k3.from_drew; have kj : Keeps (fun i => Ext FT w1 wr i ∨ i = jb) wr w3 := k3; have k13 : Keeps (fun i => FT i ∨ i = jb) w1 w3 := (HH.out.2).and_ kj (fun i hi e => e.elim (fun e => e.elim .inl (fun e => by omega)) .inr); have hV3 := HV1.out.logged hL3.2.1 k13 HAP.out; have d4 := hV3.cells.2.2.2.2; have HL3 := Lib.hid hL3; have HK3 := Lib.hid k3; have HK13 := Lib.hid k13; clear hL3 k3 kj k13 hV3))
          go_wp2_with fail
          obtain ⟨e1, e2, e3, e4, e5, e6⟩ := HC2.out
          have hlog := LogF.ext HL3.out HH.out.2.size HK3.out.size HW1.out.1 HW1.out.2
          rw [show n + 19 * p + 19 = n + 19 * (p + 1) by omega] at hlog
          exact ⟨⟨r.drop 4096, by rw [HX2.out], Lib.hid ⟨e2, f', p + 1, R.1, e1, e3, hlog, HK13.out, by omega, by omega⟩⟩, HLT.out⟩
end
end Go.Proofs.YtkmpdobojgiegaaGreatDoor
