/-
  conf.Is.
-/
import Derived.Test.YtfpajgmdejlaeaaGreatDoorQConfPb
import Derived.Test.YtfpajgmdejlaeaaGreatDoorQConfSm
namespace Go.Proofs.YtfpajgmdejlaeaaGreatDoor
open Go.RowKit Go.Maps

/-- may a configuration be? -/
def isC (c : Cf) : Bool := match loadS (printC c) with
  | .inl _ => false
  | .inr d => sameC d c
theorem OwnS.slIn {α : Type} {R : α → List Value} {size : Nat} {w : World} {B : Nat} {e : TypeId} {v : Value} {xs : List α} (h : OwnS R size w B e v xs) (hR : ∀ x, (R x).length = size) : SlIn R size (fun i => B ≤ i ∧ i < w.heap.size) w v xs := by
  obtain ⟨a, cap, hv, h1, h2, h3, h4⟩ := h.shape hR
  refine ⟨a, cap, hv, ⟨rfl, fun hp => ?_⟩, fun hp => ?_⟩
  · obtain ⟨g, hg, _, hlt, _⟩ := h3 hp
    exact ⟨g, 0, hg, hlt, fun i x j u hx hu => by rw [Nat.zero_add]; exact (h4 g hg i x j u hx hu).1⟩
  · obtain ⟨g, hg, hB, hlt, _⟩ := h3 hp
    exact ⟨g, 0, hg, hB, hlt⟩
theorem CfOwn.at_ {w : World} {B : Nat} {cv gv uv av : Value} {b0 b1 b2 b3 b4 b5 b6 b7 b8 b9 : ByteArray} {c : Cf} (h : CfOwn w B cv gv uv av b0 b1 b2 b3 b4 b5 b6 b7 b8 b9 c) : CfAt (fun i => B ≤ i ∧ i < w.heap.size) w cv gv uv av c := by
  obtain ⟨rs, g1, g2, g3⟩ := h.grps
  refine ⟨h.cons.slIn conR_len, ⟨rs, g1.slIn grR_len, g2, fun i x r hx hr => ?_⟩, h.usrs.slIn usrR_len, h.accs.slIn accR_len⟩
  obtain ⟨k1, k2, k3, -⟩ := g3 i x r hx hr
  refine ⟨k1, k2, fun hn => ?_⟩
  obtain ⟨b, off, e, hb, cs, hcs⟩ := k3 hn
  exact ⟨b, off, e, hb, hcs.lt⟩
theorem CfG.few {c : Cf} (h : CfG c) : CfFew c := ⟨Nat.le_trans h.consL (by omega), Nat.le_trans h.grpsL (by omega), Nat.le_trans h.usrsL (by omega), Nat.le_trans h.accsL (by omega), fun x hx => Nat.le_trans (h.grps x hx).2.2.1 (by omega)⟩
/-- what Print asks of a configuration -/
structure CfFine (c : Cf) : Prop where
  few : CfFew c
  ints : ∀ x ∈ c.cons, ∀ n ∈ [x.lines, x.bytes, x.gens, x.size, x.base, x.cap, x.jitter], -9223372036854775808 ≤ n ∧ n ≤ 9223372036854775807
  pats : ∀ x ∈ c.grps, x.pats.length ≤ 16383
  fine : fineL (nodesC c)
  cost : costL (nodesC c) 0 ≤ 1073741820
theorem printC_len {c : Cf} (h : CfFine c) : (str (printC c)).size ≤ 1073741820 := by
  rw [str_size]
  unfold printC
  cases hp : putL (nodesC c) 0 with
  | none => simp
  | some t => exact Nat.le_trans (putL_cost _ _ _ hp) h.cost
theorem cprint_fine (w : World) (S : Nat → Prop) (cv gv uv av : Value) (b0 b1 b2 b3 b4 b5 b6 b7 b8 b9 : ByteArray) (c : Cf) (h : CfAt S w cv gv uv av c) (hb : c.brks = [b0, b1, b2, b3, b4, b5, b6, b7, b8, b9]) (hS : ∀ i, S i → i < w.heap.size) (hf : CfFine c) :
    Calls Tryz.prog 8 #[.agg (cfL cv gv uv av b0 b1 b2 b3 b4 b5 b6 b7 b8 b9).toArray] w fun e w' => e = .returned (.string (str (printC c))) ∧ Keeps (fun _ => False) w w' :=
  cprint_any w S cv gv uv av b0 b1 b2 b3 b4 b5 b6 b7 b8 b9 c h hb hS ⟨hf.few.cons, hf.few.grps, hf.few.usrs, hf.few.accs⟩ hf.ints hf.pats hf.fine (Nat.le_trans hf.cost (by omega))
set_option maxRecDepth 100000 in
set_option maxHeartbeats 2000000 in
theorem cis_any (w : World) (S : Nat → Prop) (cv gv uv av : Value) (b0 b1 b2 b3 b4 b5 b6 b7 b8 b9 : ByteArray) (c : Cf) (h : CfAt S w cv gv uv av c) (hb : c.brks = [b0, b1, b2, b3, b4, b5, b6, b7, b8, b9]) (hS : ∀ i, S i → i < w.heap.size) (hf : CfFine c) :
    Calls Tryz.prog 10 #[.agg (cfL cv gv uv av b0 b1 b2 b3 b4 b5 b6 b7 b8 b9).toArray] w fun e w' => e = .returned (.bool (isC c)) ∧ Keeps (fun _ => False) w w' := by
  obtain ⟨wa, hwa⟩ : ∃ wa, wa = w.alloc (.cells (cfL cv gv uv av b0 b1 b2 b3 b4 b5 b6 b7 b8 b9).toArray 29) := ⟨_, rfl⟩
  have hka : Keeps (fun _ => False) w wa := by rw [hwa]; exact (Keeps.refl _ _).alloc _
  have hba : Blk wa w.heap.size 29 (cfL cv gv uv av b0 b1 b2 b3 b4 b5 b6 b7 b8 b9).toArray := by rw [hwa]; exact Blk.new _ _ _
  have HAT : Hid (∀ W, Keeps (fun _ => False) w W → CfAt S W cv gv uv av c) := Lib.hid (fun W k => h.keeps k (fun _ _ _ => id))
  have HPR : Hid (∀ W, Keeps (fun _ => False) w W → Calls Tryz.prog 8 #[.agg (cfL cv gv uv av b0 b1 b2 b3 b4 b5 b6 b7 b8 b9).toArray] W fun e w' => e = .returned (.string (str (printC c))) ∧ Keeps (fun _ => False) W w') := Lib.hid (fun W k => cprint_fine W S cv gv uv av b0 b1 b2 b3 b4 b5 b6 b7 b8 b9 c (h.keeps k (fun _ _ _ => id)) hb (fun i hi => Nat.lt_of_lt_of_le (hS i hi) k.size) hf)
  have HLD := Lib.hid (fun W => load_any W (str (printC c)) (printC_len hf))
  have HF := Lib.hid (And.intro hf (And.intro hb hS))
  have HWA := Lib.hid hwa
  have HKA := Lib.hid hka
  have HBA := Lib.hid hba
  obtain ⟨O, hO⟩ : ∃ O, O = loadS (printC c) := ⟨_, rfl⟩
  have HO := Lib.hid hO
  have hsz : wa.heap.size = w.heap.size + 1 := by rw [hwa, World.size_alloc]
  have hcell : ∀ i, wa.cell? ⟨w.heap.size, i, none⟩ = (cfL cv gv uv av b0 b1 b2 b3 b4 b5 b6 b7 b8 b9)[i]? := fun i => (hba.cell i).trans List.getElem?_toArray
  have y0 : wa.cell? ⟨w.heap.size, 0, none⟩ = some cv := hcell 0
  have y1 : wa.cell? ⟨w.heap.size, 1, none⟩ = some gv := hcell 1
  have y2 : wa.cell? ⟨w.heap.size, 2, none⟩ = some uv := hcell 2
  have y3 : wa.cell? ⟨w.heap.size, 3, none⟩ = some av := hcell 3
  have y4 : wa.cell? ⟨w.heap.size, 4, none⟩ = some (.string b0) := hcell 4
  have y5 : wa.cell? ⟨w.heap.size, 5, none⟩ = some (.string b1) := hcell 5
  have y6 : wa.cell? ⟨w.heap.size, 6, none⟩ = some (.string b2) := hcell 6
  have y7 : wa.cell? ⟨w.heap.size, 7, none⟩ = some (.string b3) := hcell 7
  have y8 : wa.cell? ⟨w.heap.size, 8, none⟩ = some (.string b4) := hcell 8
  have y9 : wa.cell? ⟨w.heap.size, 9, none⟩ = some (.string b5) := hcell 9
  have y10 : wa.cell? ⟨w.heap.size, 10, none⟩ = some (.string b6) := hcell 10
  have y11 : wa.cell? ⟨w.heap.size, 11, none⟩ = some (.string b7) := hcell 11
  have y12 : wa.cell? ⟨w.heap.size, 12, none⟩ = some (.string b8) := hcell 12
  have y13 : wa.cell? ⟨w.heap.size, 13, none⟩ = some (.string b9) := hcell 13
  rw [str_list, ← hO] at HLD
  clear hwa hka hba h hb hS hf hO hcell
  simp only [cfL] at HPR ⊢
  go_enter Tryz.func10, Tryz.ntmps10
  go_upto_region 1 with (fail)
  have hw' := HWA.out
  simp only [cfL] at hw'
  rw [← hw']
  clear hw'
  go_wp2_with fail
  refine (HPR.out _ HKA.out).mono ?_
  rintro e w1 ⟨rfl, k1⟩
  have HK1 := Lib.hid k1
  clear k1
  go_wp2_with fail
  refine (HLD.out _).mono ?_
  rintro e w2 hL
  cases O with
  | inl er =>
    obtain ⟨cd, n⟩ := er
    obtain ⟨v, ch, rfl, hch, -⟩ := hL.2.1 cd n rfl
    obtain ⟨ty, x, rfl⟩ := hch.form
    have HK2 := Lib.hid ((HKA.out.trans HK1.out).trans hL.2.2)
    have HE : Hid (isC c = false) := Lib.hid (by unfold isC; rw [← HO.out])
    clear hL hch
    simp only [cfL, noV]
    go_wp2_with fail
    go_ret
    exact ⟨by rw [HE.out]; rfl, HK2.out.alloc _⟩
  | inr d =>
    obtain ⟨cv', gv', uv', av', d0, d1, d2, d3, d4, d5, d6, d7, d8, d9, rfl, hown, -, -, -, -⟩ := hL.1 d rfl
    have HK2 := Lib.hid (HK1.out.trans hL.2.2)
    have HOW := Lib.hid hown
    have HE : Hid (isC c = sameC d c) := Lib.hid (by unfold isC; rw [← HO.out])
    have hg : CfG d := load_good HO.out.symm
    have HG := Lib.hid hg
    obtain ⟨xa1, xc1, hx1⟩ := hown.cons.sl
    obtain ⟨rs, hgr, hgl, -⟩ := hown.grps
    obtain ⟨xa2, xc2, hx2⟩ := hgr.sl
    obtain ⟨xa3, xc3, hx3⟩ := hown.usrs.sl
    obtain ⟨xa4, xc4, hx4⟩ := hown.accs.sl
    subst hx1 hx2 hx3 hx4
    clear hL hown hg hgr
    simp only [cfL]
    go_upto_region 2 with (fail)
    obtain ⟨wx, hwx⟩ : ∃ wx, wx = w2.alloc (.cells #[.slice xa1 d.cons.length xc1, .slice xa2 rs.length xc2, .slice xa3 d.usrs.length xc3, .slice xa4 d.accs.length xc4, .string d0, .string d1, .string d2, .string d3, .string d4, .string d5, .string d6, .string d7, .string d8, .string d9] 29) := ⟨_, rfl⟩
    have hkx : Keeps (fun _ => False) w2 wx := by rw [hwx]; exact (Keeps.refl _ _).alloc _
    have hbx : Blk wx w2.heap.size 29 #[.slice xa1 d.cons.length xc1, .slice xa2 rs.length xc2, .slice xa3 d.usrs.length xc3, .slice xa4 d.accs.length xc4, .string d0, .string d1, .string d2, .string d3, .string d4, .string d5, .string d6, .string d7, .string d8, .string d9] := by rw [hwx]; exact Blk.new _ _ _
    have hby : Blk wx w.heap.size 29 (cfL cv gv uv av b0 b1 b2 b3 b4 b5 b6 b7 b8 b9).toArray := HBA.out.keeps (HK2.out.trans hkx) id
    have hsx : w2.heap.size < wx.heap.size := hbx.lt
    have x0 : wx.cell? ⟨w2.heap.size, 0, none⟩ = some (.slice xa1 d.cons.length xc1) := hbx.cell 0
    have x1 : wx.cell? ⟨w2.heap.size, 1, none⟩ = some (.slice xa2 rs.length xc2) := hbx.cell 1
    have x2 : wx.cell? ⟨w2.heap.size, 2, none⟩ = some (.slice xa3 d.usrs.length xc3) := hbx.cell 2
    have x3 : wx.cell? ⟨w2.heap.size, 3, none⟩ = some (.slice xa4 d.accs.length xc4) := hbx.cell 3
    have x4 : wx.cell? ⟨w2.heap.size, 4, none⟩ = some (.string d0) := hbx.cell 4
    have x5 : wx.cell? ⟨w2.heap.size, 5, none⟩ = some (.string d1) := hbx.cell 5
    have x6 : wx.cell? ⟨w2.heap.size, 6, none⟩ = some (.string d2) := hbx.cell 6
    have x7 : wx.cell? ⟨w2.heap.size, 7, none⟩ = some (.string d3) := hbx.cell 7
    have x8 : wx.cell? ⟨w2.heap.size, 8, none⟩ = some (.string d4) := hbx.cell 8
    have x9 : wx.cell? ⟨w2.heap.size, 9, none⟩ = some (.string d5) := hbx.cell 9
    have x10 : wx.cell? ⟨w2.heap.size, 10, none⟩ = some (.string d6) := hbx.cell 10
    have x11 : wx.cell? ⟨w2.heap.size, 11, none⟩ = some (.string d7) := hbx.cell 11
    have x12 : wx.cell? ⟨w2.heap.size, 12, none⟩ = some (.string d8) := hbx.cell 12
    have x13 : wx.cell? ⟨w2.heap.size, 13, none⟩ = some (.string d9) := hbx.cell 13
    have z0 : wx.cell? ⟨w.heap.size, 0, none⟩ = some (cv) := hby.cell 0
    have z1 : wx.cell? ⟨w.heap.size, 1, none⟩ = some (gv) := hby.cell 1
    have z2 : wx.cell? ⟨w.heap.size, 2, none⟩ = some (uv) := hby.cell 2
    have z3 : wx.cell? ⟨w.heap.size, 3, none⟩ = some (av) := hby.cell 3
    have z4 : wx.cell? ⟨w.heap.size, 4, none⟩ = some (.string b0) := hby.cell 4
    have z5 : wx.cell? ⟨w.heap.size, 5, none⟩ = some (.string b1) := hby.cell 5
    have z6 : wx.cell? ⟨w.heap.size, 6, none⟩ = some (.string b2) := hby.cell 6
    have z7 : wx.cell? ⟨w.heap.size, 7, none⟩ = some (.string b3) := hby.cell 7
    have z8 : wx.cell? ⟨w.heap.size, 8, none⟩ = some (.string b4) := hby.cell 8
    have z9 : wx.cell? ⟨w.heap.size, 9, none⟩ = some (.string b5) := hby.cell 9
    have z10 : wx.cell? ⟨w.heap.size, 10, none⟩ = some (.string b6) := hby.cell 10
    have z11 : wx.cell? ⟨w.heap.size, 11, none⟩ = some (.string b7) := hby.cell 11
    have z12 : wx.cell? ⟨w.heap.size, 12, none⟩ = some (.string b8) := hby.cell 12
    have z13 : wx.cell? ⟨w.heap.size, 13, none⟩ = some (.string b9) := hby.cell 13
    have HSM : Hid (Calls Tryz.prog 11 #[.agg #[.slice xa1 d.cons.length xc1, .slice xa2 rs.length xc2, .slice xa3 d.usrs.length xc3, .slice xa4 d.accs.length xc4, .string d0, .string d1, .string d2, .string d3, .string d4, .string d5, .string d6, .string d7, .string d8, .string d9], .agg #[cv, gv, uv, av, .string b0, .string b1, .string b2, .string b3, .string b4, .string b5, .string b6, .string b7, .string b8, .string b9]] wx fun e w' => e = .returned (.bool (sameC d c)) ∧ Keeps (fun _ => False) wx w') := Lib.hid (
      csame_any wx _ S _ _ _ _ cv gv uv av d0 d1 d2 d3 d4 d5 d6 d7 d8 d9 b0 b1 b2 b3 b4 b5 b6 b7 b8 b9 d c (HOW.out.at_.keeps hkx (fun _ _ _ => id)) (HAT.out wx ((HKA.out.trans HK2.out).trans hkx)) HOW.out.brk HF.out.2.1 (fun i hi => by have := hi.2; omega) (fun i hi => Nat.lt_of_lt_of_le (HF.out.2.2 i hi) ((HKA.out.trans HK2.out).trans hkx).size) HG.out.few HF.out.1.few)
    have HKX := Lib.hid ((HKA.out.trans HK2.out).trans hkx)
    rw [← hwx]
    clear hwx hkx hbx hby
    go_wp2_with fail
    refine HSM.out.mono ?_
    rintro e w3 ⟨rfl, k3⟩
    have HK3 := Lib.hid (HKX.out.trans k3)
    clear k3
    go_wp2_with fail
    go_ret
    exact ⟨by rw [HE.out]; rfl, HK3.out⟩
end Go.Proofs.YtfpajgmdejlaeaaGreatDoor
