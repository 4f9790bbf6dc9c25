/-
  conf.Same.
-/
import Derived.Test.YtfpajgmdejlaeaaGreatDoorQConfEq
import Derived.Test.YtfpajgmdejlaeaaGreatDoorQEqArr
namespace Go.Proofs.YtfpajgmdejlaeaaGreatDoor
open Go.RowKit Go.Maps

set_option maxRecDepth 100000 in
/-- are two groups the same? -/
theorem gsame_any (w : World) (S T : Nat → Prop) (x y : Grp) (rn : ByteArray) (ra : Option Addr) (rk rc : Nat) (qn : ByteArray) (qa : Option Addr) (qk qc : Nat) (h1 : GrM S w x ⟨rn, ra, rk, rc⟩) (h2 : GrM T w y ⟨qn, qa, qk, qc⟩) (hx : x.pats.length ≤ 1099511627776) (hy : y.pats.length ≤ 1099511627776) :
    Calls Tryz.prog 32 #[.agg #[.string rn, .slice ra rk rc], .agg #[.string qn, .slice qa qk qc]] w fun e w' => e = .returned (.bool (decide (x = y))) ∧ Keeps (fun _ => False) w w' := by
  obtain ⟨xn, xp⟩ := x
  obtain ⟨yn, yp⟩ := y
  obtain ⟨e1, a1, i1⟩ := h1
  obtain ⟨e2, a2, i2⟩ := h2
  simp only at e1 a1 i1 e2 a2 i2 hx hy
  subst e1 e2
  have l1 := a1.1
  have l2 := a2.1
  obtain ⟨wb, hwb⟩ : ∃ wb, wb = (w.alloc (.cells #[.string rn, .slice ra rk rc] 65)).alloc (.cells #[.string qn, .slice qa qk qc] 65) := ⟨_, rfl⟩
  have hk0 : Keeps (fun _ => False) w wb := by rw [hwb]; exact ((Keeps.refl _ _).alloc _).alloc _
  have hb1 : Blk wb w.heap.size 65 #[.string rn, .slice ra rk rc] := by rw [hwb]; exact (Blk.new _ _ _).alloc _
  have hb2 : Blk wb (w.heap.size + 1) 65 #[.string qn, .slice qa qk qc] := by rw [hwb]; exact Blk.new2 _ _ _ _
  have x0 : wb.cell? ⟨w.heap.size, 0, none⟩ = some (.string rn) := hb1.cell 0
  have x1 : wb.cell? ⟨w.heap.size, 1, none⟩ = some (.slice ra rk rc) := hb1.cell 1
  have z0 : wb.cell? ⟨w.heap.size + 1, 0, none⟩ = some (.string qn) := hb2.cell 0
  have z1 : wb.cell? ⟨w.heap.size + 1, 1, none⟩ = some (.slice qa qk qc) := hb2.cell 1
  have HE := Lib.hid (eqS_any wb ra qa rk qk rc qc xp yp (a1.keepsS i1 hk0 (fun _ _ _ => id)) (a2.keepsS i2 hk0 (fun _ _ _ => id)) (by omega) (by omega))
  have HWB := Lib.hid hwb
  have HK0 := Lib.hid hk0
  clear hwb hk0 hb1 hb2 a1 a2 i1 i2
  by_cases hn : rn = qn
  · have hd : (rn.toList == qn.toList) = true := by rw [str_eq_b]; exact decide_eq_true hn
    have HD : Hid (decide ((⟨rn, xp⟩ : Grp) = ⟨qn, yp⟩) = decide (xp = yp)) := Lib.hid (by simp [hn])
    clear hn
    go_enter Tryz.func32, Tryz.ntmps32
    go_upto_region 1 with (fail)
    rw [← HWB.out]
    go_wp2_with fail
    refine HE.out.mono ?_
    rintro e w3 ⟨rfl, k3⟩
    have HK3 := Lib.hid (HK0.out.trans k3)
    clear k3
    go_wp2_with fail
    go_ret
    exact ⟨by rw [HD.out]; rfl, HK3.out⟩
  · have hd : (rn.toList == qn.toList) = false := by rw [str_eq_b]; exact decide_eq_false hn
    have HD : Hid (decide ((⟨rn, xp⟩ : Grp) = ⟨qn, yp⟩) = false) := Lib.hid (by simp [hn])
    clear hn
    go_enter Tryz.func32, Tryz.ntmps32
    go_upto_region 1 with (fail)
    rw [← HWB.out]
    go_wp2_with fail
    go_ret
    exact ⟨by rw [HD.out]; rfl, HK0.out⟩
/-- groups in memory -/
def GrsAt (S : Nat → Prop) (w : World) (v : Value) (l : List Grp) : Prop := ∃ rs, SlIn grR 2 S w v rs ∧ l.length = rs.length ∧ ∀ (i : Nat) x r, l[i]? = some x → rs[i]? = some r → GrM S w x r
theorem GrsAt.keeps {S T : Nat → Prop} {w w' : World} {v : Value} {l : List Grp} (h : GrsAt S w v l) (k : Keeps T w w') (hd : ∀ i, i < w.heap.size → S i → ¬ T i) : GrsAt S w' v l := by
  obtain ⟨rs, h2, h3, h4⟩ := h
  exact ⟨rs, h2.keeps k hd, h3, fun i x r hx hr => by obtain ⟨g1, g2, g3⟩ := h4 i x r hx hr; exact ⟨g1, g2.keepsS g3 k hd, g3⟩⟩
/-- what stands at a place of groups in memory -/
theorem GrsAt.at_ {S : Nat → Prop} {w : World} {a : Option Addr} {n c : Nat} {l : List Grp} (h : GrsAt S w (.slice a n c) l) {j : Nat} {x : Grp} (hx : l[j]? = some x) :
    ∃ b off r, a = some ⟨b, off, none⟩ ∧ b < w.heap.size ∧ w.cell? ⟨b, off + j * 2, none⟩ = some (.string r.name) ∧ w.cell? ⟨b, off + j * 2 + 1, none⟩ = some (.slice r.pa r.pn r.pc) ∧ GrM S w x r := by
  obtain ⟨rs, ⟨a', c', e, h1, -⟩, h3, h4⟩ := h
  injection e with e1 e2 e3
  subst e1
  have hlt := (List.getElem?_eq_some_iff.1 hx).1
  obtain ⟨r, hr⟩ : ∃ r, rs[j]? = some r := ⟨_, List.getElem?_eq_getElem (by omega)⟩
  obtain ⟨b, off, rfl, hb, -⟩ := h1.2 (by omega)
  have z0 := h1.cells hr 0 _ rfl
  have z1 := h1.cells hr 1 _ rfl
  exact ⟨b, off, r, rfl, hb, z0, z1, h4 j x r hx hr⟩
theorem GrsAt.sl {S : Nat → Prop} {w : World} {v : Value} {l : List Grp} (h : GrsAt S w v l) : ∃ a c, v = .slice a l.length c := by
  obtain ⟨rs, ⟨a, c, e, -⟩, h3, -⟩ := h
  exact ⟨a, c, by rw [e, h3]⟩
set_option maxRecDepth 100000 in
set_option maxHeartbeats 2000000 in
theorem eqG_any (w : World) (S T : Nat → Prop) (a b : Option Addr) (c d : Nat) (xs ys : List Grp) (h1 : GrsAt S w (.slice a xs.length c) xs) (h2 : GrsAt T w (.slice b ys.length d) ys) (_hS : ∀ i, S i → i < w.heap.size) (_hT : ∀ i, T i → i < w.heap.size) (hn : xs.length ≤ 1099511627776) (hm : ys.length ≤ 1099511627776) (hpx : ∀ x ∈ xs, x.pats.length ≤ 1099511627776) (hpy : ∀ x ∈ ys, x.pats.length ≤ 1099511627776) :
    Calls Tryz.prog 31 #[.slice a xs.length c, .slice b ys.length d, .func (.func 32) #[] #[]] w fun e w' => e = .returned (.bool (decide (xs = ys))) ∧ Keeps (fun _ => False) w w' := by
  obtain ⟨n, hxn⟩ : ∃ n, n = xs.length := ⟨_, rfl⟩
  obtain ⟨m, hym⟩ : ∃ m, m = ys.length := ⟨_, rfl⟩
  rw [← hxn, ← hym]
  rw [← hxn] at h1 hn
  rw [← hym] at h2 hm
  have HX := Lib.hid hxn
  have HY := Lib.hid hym
  have H1 := Lib.hid h1
  have H2 := Lib.hid h2
  have HPX := Lib.hid hpx
  have HPY := Lib.hid hpy
  by_cases hnm : n = m
  · subst hnm
    have hn0 : (n : Int) ≤ 1099511627776 := by omega
    clear hxn hym h1 h2 hpx hpy _hS _hT
    go_enter Tryz.func31, Tryz.ntmps31
    go_wp2_with fail
    go_loopw [17] (fun u17 wr => ∃ j : Nat, j ≤ n ∧ u17 = .int .i64 j ∧ Hid (xs.take j = ys.take j ∧ Keeps (fun _ => False) w wr)) (fun u17 _ => n - (intOf u17).toNat)
    case atStart => exact ⟨0, by omega, rfl, Lib.hid ⟨by simp, Keeps.refl _ _⟩⟩
    case round =>
      obtain ⟨j, hj, rfl, HR⟩ := hrel
      by_cases hjn : j = n
      · subst hjn
        have HE : Hid (decide (xs = ys) = true) := Lib.hid (decide_eq_true (by
          have := HR.out.1
          rwa [HX.out, List.take_length, ← HX.out, HY.out, List.take_length] at this))
        go_wp2_with fail
        go_ret
        exact ⟨by rw [HE.out]; rfl, HR.out.2⟩
      · have hjl : j < n := by omega
        have hj0 : (0 : Int) ≤ j := by omega
        have hj1 : (j : Int) < n := by omega
        obtain ⟨x, hx⟩ : ∃ x, xs[j]? = some x := ⟨_, List.getElem?_eq_getElem (by rw [← HX.out]; exact hjl)⟩
        obtain ⟨y, hy⟩ : ∃ y, ys[j]? = some y := ⟨_, List.getElem?_eq_getElem (by rw [← HY.out]; exact hjl)⟩
        obtain ⟨b1, o1, ⟨rn, ra, rk, rc⟩, rfl, hb1, z0, z1, m1⟩ := (H1.out.keeps HR.out.2 (fun _ _ _ => id)).at_ hx
        obtain ⟨b2, o2, ⟨qn, qa, qk, qc⟩, rfl, hb2, y0, y1, m2⟩ := (H2.out.keeps HR.out.2 (fun _ _ _ => id)).at_ hy
        simp only at z0 z1 y0 y1
        have hw1 : IntKind.i64.wrap ((j : Int) + 1) = ((j + 1 : Nat) : Int) := by rw [wrap_in (by omega) (by omega)]; omega
        have HM : Hid (∀ W, Keeps (fun _ => False) wr W → Calls Tryz.prog 32 #[.agg #[.string rn, .slice ra rk rc], .agg #[.string qn, .slice qa qk qc]] W fun e w' => e = .returned (.bool (decide (x = y))) ∧ Keeps (fun _ => False) W w') := Lib.hid (fun W k =>
          gsame_any W S T x y rn ra rk rc qn qa qk qc ⟨m1.1, m1.2.1.keepsS m1.2.2 k (fun _ _ _ => id), m1.2.2⟩ ⟨m2.1, m2.2.1.keepsS m2.2.2 k (fun _ _ _ => id), m2.2.2⟩ (HPX.out x (List.mem_of_getElem? hx)) (HPY.out y (List.mem_of_getElem? hy)))
        have HXJ := Lib.hid hx
        have HYJ := Lib.hid hy
        clear m1 m2 hx hy
        go_upto_region 7 with (fail)
        obtain ⟨wx, hwx⟩ : ∃ wx, wx = (wr.alloc (.cells #[.string rn, .slice ra rk rc] 65)).alloc (.cells #[.string qn, .slice qa qk qc] 65) := ⟨_, rfl⟩
        have hkx : Keeps (fun _ => False) wr wx := by rw [hwx]; exact ((Keeps.refl _ _).alloc _).alloc _
        have hbx : Blk wx wr.heap.size 65 #[.string rn, .slice ra rk rc] := by rw [hwx]; exact (Blk.new _ _ _).alloc _
        have hby : Blk wx (wr.heap.size + 1) 65 #[.string qn, .slice qa qk qc] := by rw [hwx]; exact Blk.new2 _ _ _ _
        have v0 : wx.cell? ⟨wr.heap.size, 0, none⟩ = some (.string rn) := hbx.cell 0
        have v1 : wx.cell? ⟨wr.heap.size, 1, none⟩ = some (.slice ra rk rc) := hbx.cell 1
        have v2 : wx.cell? ⟨wr.heap.size + 1, 0, none⟩ = some (.string qn) := hby.cell 0
        have v3 : wx.cell? ⟨wr.heap.size + 1, 1, none⟩ = some (.slice qa qk qc) := hby.cell 1
        have HKX := Lib.hid hkx
        rw [← hwx]
        clear hwx hkx hbx hby
        obtain ⟨bb, hbb⟩ : ∃ bb, bb = decide (x = y) := ⟨_, rfl⟩
        have HBB := Lib.hid hbb
        have HM2 := HM.out wx HKX.out
        rw [← hbb] at HM2
        have HM3 := Lib.hid HM2
        clear HM2 hbb
        go_wp2_with fail
        refine HM3.out.mono ?_
        rintro e w3 ⟨rfl, k3⟩
        have HK3 := Lib.hid (HR.out.2.trans (HKX.out.trans k3))
        clear k3
        cases bb with
        | true =>
          have HTK : Hid (xs.take (j + 1) = ys.take (j + 1)) := Lib.hid (by
            have e := of_decide_eq_true HBB.out.symm
            rw [List.take_add_one, List.take_add_one, HR.out.1, HXJ.out, HYJ.out, e])
          go_wp2_with fail
          exact ⟨⟨j + 1, by omega, by go_num, Lib.hid ⟨HTK.out, HK3.out⟩⟩, by simp only [intOf]; omega⟩
        | false =>
          have HE : Hid (decide (xs = ys) = false) := Lib.hid (decide_eq_false (fun e => of_decide_eq_false HBB.out.symm (by
            have h1 := HXJ.out
            rw [e, HYJ.out] at h1
            injection h1 with h1
            exact h1.symm)))
          go_wp2_with fail
          go_ret
          exact ⟨by rw [HE.out]; rfl, HK3.out⟩
  · have hne : decide (xs = ys) = false := decide_eq_false (fun e => hnm (by rw [hxn, hym, e]))
    have hd2 : ((n : Int) == (m : Int)) = false := beq_eq_false_iff_ne.2 (by omega)
    rw [hne]
    clear h1 h2 hne hxn hym hpx hpy _hS _hT
    go_enter Tryz.func31, Tryz.ntmps31
    go_wp2_with fail
    go_ret
    exact ⟨rfl, Keeps.refl _ _⟩
/-- fewer than that -/
structure CfFew (c : Cf) : Prop where
  cons : c.cons.length ≤ 1048576
  grps : c.grps.length ≤ 1048576
  usrs : c.usrs.length ≤ 1048576
  accs : c.accs.length ≤ 1048576
  pats : ∀ x ∈ c.grps, x.pats.length ≤ 1099511627776
/-- are two configurations the same? -/
def sameC (c d : Cf) : Bool := decide (c.cons = d.cons) && (decide (c.usrs = d.usrs) && (decide (c.accs = d.accs) && (decide (c.brks = d.brks) && decide (c.grps = d.grps))))
theorem sameC_iff {c d : Cf} : sameC c d = true ↔ c = d := by
  unfold sameC
  obtain ⟨c1, c2, c3, c4, c5⟩ := c
  obtain ⟨d1, d2, d3, d4, d5⟩ := d
  simp only [Bool.and_eq_true, decide_eq_true_eq, Cf.mk.injEq]
  exact ⟨fun ⟨a, b, c, d, e⟩ => ⟨a, e, b, c, d⟩, fun ⟨a, e, b, c, d⟩ => ⟨a, b, c, d, e⟩⟩
set_option maxRecDepth 100000 in
set_option maxHeartbeats 2000000 in
theorem csame_any (w : World) (S T : Nat → Prop) (cv gv uv av cv' gv' uv' av' : Value) (b0 b1 b2 b3 b4 b5 b6 b7 b8 b9 d0 d1 d2 d3 d4 d5 d6 d7 d8 d9 : ByteArray) (c d : Cf) (h : CfAt S w cv gv uv av c) (h' : CfAt T w cv' gv' uv' av' d) (hb : c.brks = [b0, b1, b2, b3, b4, b5, b6, b7, b8, b9]) (hd : d.brks = [d0, d1, d2, d3, d4, d5, d6, d7, d8, d9])
    (hS : ∀ i, S i → i < w.heap.size) (hT : ∀ i, T i → i < w.heap.size) (hc1 : CfFew c) (hd1 : CfFew d) :
    Calls Tryz.prog 11 #[.agg (cfL cv gv uv av b0 b1 b2 b3 b4 b5 b6 b7 b8 b9).toArray, .agg (cfL cv' gv' uv' av' d0 d1 d2 d3 d4 d5 d6 d7 d8 d9).toArray] w fun e w' => e = .returned (.bool (sameC c d)) ∧ Keeps (fun _ => False) w w' := by
  obtain ⟨wb, hwb⟩ : ∃ wb, wb = (w.alloc (.cells (cfL cv gv uv av b0 b1 b2 b3 b4 b5 b6 b7 b8 b9).toArray 29)).alloc (.cells (cfL cv' gv' uv' av' d0 d1 d2 d3 d4 d5 d6 d7 d8 d9).toArray 29) := ⟨_, rfl⟩
  have hk0 : Keeps (fun _ => False) w wb := by rw [hwb]; exact ((Keeps.refl _ _).alloc _).alloc _
  have hb1 : Blk wb w.heap.size 29 (cfL cv gv uv av b0 b1 b2 b3 b4 b5 b6 b7 b8 b9).toArray := by rw [hwb]; exact (Blk.new _ _ _).alloc _
  have hb2 : Blk wb (w.heap.size + 1) 29 (cfL cv' gv' uv' av' d0 d1 d2 d3 d4 d5 d6 d7 d8 d9).toArray := by rw [hwb]; exact Blk.new2 _ _ _ _
  have h1 := h.keeps hk0 (fun _ _ _ => id)
  have h2 := h'.keeps hk0 (fun _ _ _ => id)
  obtain ⟨⟨ca, cc, rfl, hc2, hc3⟩, hg, ⟨ua, uc, rfl, hu2, hu3⟩, ⟨aa, ac, rfl, ha2, ha3⟩⟩ := h1
  obtain ⟨⟨ca', cc', rfl, hc2', hc3'⟩, hg', ⟨ua', uc', rfl, hu2', hu3'⟩, ⟨aa', ac', rfl, ha2', ha3'⟩⟩ := h2
  obtain ⟨ga, gc, rfl⟩ := GrsAt.sl (S := S) (w := wb) (l := c.grps) hg
  obtain ⟨ga', gc', rfl⟩ := GrsAt.sl (S := T) (w := wb) (l := d.grps) hg'
  have kk := fun W (k : Keeps (fun _ => False) wb W) => k
  have HC : Hid (∀ W, Keeps (fun _ => False) wb W → Calls Tryz.prog 28 #[.slice ca c.cons.length cc, .slice ca' d.cons.length cc'] W fun e w' => e = .returned (.bool (decide (c.cons = d.cons))) ∧ Keeps (fun _ => False) W w') := Lib.hid (fun W k => eqC_any W ca ca' _ _ cc cc' _ _ (hc2.keepsS hc3 k (fun _ _ _ => id)) (hc2'.keepsS hc3' k (fun _ _ _ => id)) (by have := hc1.cons; omega) (by have := hd1.cons; omega))
  have HU : Hid (∀ W, Keeps (fun _ => False) wb W → Calls Tryz.prog 29 #[.slice ua c.usrs.length uc, .slice ua' d.usrs.length uc'] W fun e w' => e = .returned (.bool (decide (c.usrs = d.usrs))) ∧ Keeps (fun _ => False) W w') := Lib.hid (fun W k => eqU_any W ua ua' _ _ uc uc' _ _ (hu2.keepsS hu3 k (fun _ _ _ => id)) (hu2'.keepsS hu3' k (fun _ _ _ => id)) (by have := hc1.usrs; omega) (by have := hd1.usrs; omega))
  have HA : Hid (∀ W, Keeps (fun _ => False) wb W → Calls Tryz.prog 30 #[.slice aa c.accs.length ac, .slice aa' d.accs.length ac'] W fun e w' => e = .returned (.bool (decide (c.accs = d.accs))) ∧ Keeps (fun _ => False) W w') := Lib.hid (fun W k => eqA_any W aa aa' _ _ ac ac' _ _ (ha2.keepsS ha3 k (fun _ _ _ => id)) (ha2'.keepsS ha3' k (fun _ _ _ => id)) (by have := hc1.accs; omega) (by have := hd1.accs; omega))
  have HG : Hid (∀ W, Keeps (fun _ => False) wb W → Calls Tryz.prog 31 #[.slice ga c.grps.length gc, .slice ga' d.grps.length gc', .func (.func 32) #[] #[]] W fun e w' => e = .returned (.bool (decide (c.grps = d.grps))) ∧ Keeps (fun _ => False) W w') := Lib.hid (fun W k => eqG_any W S T ga ga' gc gc' c.grps d.grps (GrsAt.keeps hg k (fun _ _ _ => id)) (GrsAt.keeps hg' k (fun _ _ _ => id)) (fun i hi => by have := hS i hi; have := hk0.size; have := k.size; omega) (fun i hi => by have := hT i hi; have := hk0.size; have := k.size; omega) (by have := hc1.grps; omega) (by have := hd1.grps; omega) hc1.pats hd1.pats)
  have Y : ∀ W, Keeps (fun _ => False) wb W → (∀ i, W.cell? ⟨w.heap.size, i, none⟩ = (cfL (.slice ca c.cons.length cc) (.slice ga c.grps.length gc) (.slice ua c.usrs.length uc) (.slice aa c.accs.length ac) b0 b1 b2 b3 b4 b5 b6 b7 b8 b9)[i]?) ∧ ∀ i, W.cell? ⟨w.heap.size + 1, i, none⟩ = (cfL (.slice ca' d.cons.length cc') (.slice ga' d.grps.length gc') (.slice ua' d.usrs.length uc') (.slice aa' d.accs.length ac') d0 d1 d2 d3 d4 d5 d6 d7 d8 d9)[i]? := fun W k => ⟨fun i => ((hb1.keeps k id).cell i).trans List.getElem?_toArray, fun i => ((hb2.keeps k id).cell i).trans List.getElem?_toArray⟩
  have HY := Lib.hid Y
  have HWB := Lib.hid hwb
  have HK0 := Lib.hid hk0
  have HCF : Hid (sameC c d = (decide (c.cons = d.cons) && (decide (c.usrs = d.usrs) && (decide (c.accs = d.accs) && (decide (c.brks = d.brks) && decide (c.grps = d.grps)))))) := Lib.hid rfl
  have x0 : wb.cell? ⟨w.heap.size, 0, none⟩ = some (.slice ca c.cons.length cc) := (Y wb (Keeps.refl _ _)).1 0
  have z0 : wb.cell? ⟨w.heap.size + 1, 0, none⟩ = some (.slice ca' d.cons.length cc') := (Y wb (Keeps.refl _ _)).2 0
  have HBR := Lib.hid (And.intro hb hd)
  obtain ⟨q1, hq1⟩ : ∃ q, q = decide (c.cons = d.cons) := ⟨_, rfl⟩
  obtain ⟨q2, hq2⟩ : ∃ q, q = decide (c.usrs = d.usrs) := ⟨_, rfl⟩
  obtain ⟨q3, hq3⟩ : ∃ q, q = decide (c.accs = d.accs) := ⟨_, rfl⟩
  obtain ⟨q4, hq4⟩ : ∃ q, q = decide (c.brks = d.brks) := ⟨_, rfl⟩
  obtain ⟨q5, hq5⟩ : ∃ q, q = decide (c.grps = d.grps) := ⟨_, rfl⟩
  rw [← hq1, ← hq2, ← hq3, ← hq4, ← hq5] at HCF
  rw [← hq1] at HC
  rw [← hq2] at HU
  rw [← hq3] at HA
  rw [← hq5] at HG
  have HQ4 := Lib.hid hq4
  clear hq1 hq2 hq3 hq4 hq5 hwb hk0 hb1 hb2 h h' hc2 hc3 hg hu2 hu3 ha2 ha3 hc2' hc3' hg' hu2' hu3' ha2' ha3' Y kk hb hd hS hT hc1 hd1
  go_enter Tryz.func11, Tryz.ntmps11
  go_upto_region 1 with (fail)
  rw [← HWB.out]
  go_wp2_with fail
  refine (HC.out _ (Keeps.refl _ _)).mono ?_
  rintro e w1 ⟨rfl, k1⟩
  have HK1 := Lib.hid k1
  clear k1
  cases q1 with
  | false =>
    have HE : Hid (sameC c d = false) := Lib.hid (by rw [HCF.out]; rfl)
    go_wp2_with fail
    go_ret
    exact ⟨by rw [HE.out]; rfl, HK0.out.trans HK1.out⟩
  | true =>
    have y0 : w1.cell? ⟨w.heap.size, 2, none⟩ = some (.slice ua c.usrs.length uc) := (HY.out w1 HK1.out).1 2
    have y1 : w1.cell? ⟨w.heap.size + 1, 2, none⟩ = some (.slice ua' d.usrs.length uc') := (HY.out w1 HK1.out).2 2
    go_wp2_with fail
    refine (HU.out _ HK1.out).mono ?_
    rintro e w2 ⟨rfl, k2⟩
    have HK2 := Lib.hid (HK1.out.trans k2)
    clear k2
    cases q2 with
    | false =>
      have HE : Hid (sameC c d = false) := Lib.hid (by rw [HCF.out]; rfl)
      go_wp2_with fail
      go_ret
      exact ⟨by rw [HE.out]; rfl, HK0.out.trans HK2.out⟩
    | true =>
      have y2 : w2.cell? ⟨w.heap.size, 3, none⟩ = some (.slice aa c.accs.length ac) := (HY.out w2 HK2.out).1 3
      have y3 : w2.cell? ⟨w.heap.size + 1, 3, none⟩ = some (.slice aa' d.accs.length ac') := (HY.out w2 HK2.out).2 3
      go_wp2_with fail
      refine (HA.out _ HK2.out).mono ?_
      rintro e w3 ⟨rfl, k3⟩
      have HK3 := Lib.hid (HK2.out.trans k3)
      clear k3
      cases q3 with
      | false =>
        have HE : Hid (sameC c d = false) := Lib.hid (by rw [HCF.out]; rfl)
        go_wp2_with fail
        go_ret
        exact ⟨by rw [HE.out]; rfl, HK0.out.trans HK3.out⟩
      | true =>
        have Y := HY.out w3 HK3.out
        have m0 : w3.cell? ⟨w.heap.size, 4, none⟩ = some (.string b0) := Y.1 4
        have n0 : w3.cell? ⟨w.heap.size + 1, 4, none⟩ = some (.string d0) := Y.2 4
        have m1 : w3.cell? ⟨w.heap.size, 5, none⟩ = some (.string b1) := Y.1 5
        have n1 : w3.cell? ⟨w.heap.size + 1, 5, none⟩ = some (.string d1) := Y.2 5
        have m2 : w3.cell? ⟨w.heap.size, 6, none⟩ = some (.string b2) := Y.1 6
        have n2 : w3.cell? ⟨w.heap.size + 1, 6, none⟩ = some (.string d2) := Y.2 6
        have m3 : w3.cell? ⟨w.heap.size, 7, none⟩ = some (.string b3) := Y.1 7
        have n3 : w3.cell? ⟨w.heap.size + 1, 7, none⟩ = some (.string d3) := Y.2 7
        have m4 : w3.cell? ⟨w.heap.size, 8, none⟩ = some (.string b4) := Y.1 8
        have n4 : w3.cell? ⟨w.heap.size + 1, 8, none⟩ = some (.string d4) := Y.2 8
        have m5 : w3.cell? ⟨w.heap.size, 9, none⟩ = some (.string b5) := Y.1 9
        have n5 : w3.cell? ⟨w.heap.size + 1, 9, none⟩ = some (.string d5) := Y.2 9
        have m6 : w3.cell? ⟨w.heap.size, 10, none⟩ = some (.string b6) := Y.1 10
        have n6 : w3.cell? ⟨w.heap.size + 1, 10, none⟩ = some (.string d6) := Y.2 10
        have m7 : w3.cell? ⟨w.heap.size, 11, none⟩ = some (.string b7) := Y.1 11
        have n7 : w3.cell? ⟨w.heap.size + 1, 11, none⟩ = some (.string d7) := Y.2 11
        have m8 : w3.cell? ⟨w.heap.size, 12, none⟩ = some (.string b8) := Y.1 12
        have n8 : w3.cell? ⟨w.heap.size + 1, 12, none⟩ = some (.string d8) := Y.2 12
        have m9 : w3.cell? ⟨w.heap.size, 13, none⟩ = some (.string b9) := Y.1 13
        have n9 : w3.cell? ⟨w.heap.size + 1, 13, none⟩ = some (.string d9) := Y.2 13
        have g0 : w3.cell? ⟨w.heap.size, 1, none⟩ = some (.slice ga c.grps.length gc) := Y.1 1
        have g1 : w3.cell? ⟨w.heap.size + 1, 1, none⟩ = some (.slice ga' d.grps.length gc') := Y.2 1
        clear Y
        have hEQ : ∀ W, (Op.equalIn 10000 27 (.agg #[.string b0, .string b1, .string b2, .string b3, .string b4, .string b5, .string b6, .string b7, .string b8, .string b9]) (.agg #[.string d0, .string d1, .string d2, .string d3, .string d4, .string d5, .string d6, .string d7, .string d8, .string d9])).run Tryz.prog W = .ok q4 W := fun W => by
          rw [HQ4.out, HBR.out.1, HBR.out.2]
          exact run_eql_strs W 27 9 10 [b0, b1, b2, b3, b4, b5, b6, b7, b8, b9] [d0, d1, d2, d3, d4, d5, d6, d7, d8, d9] Tryz.underlying27 Tryz.underlying9 (Tryz.sizeOf9 W) rfl rfl
        cases q4 with
        | false =>
          have HE : Hid (sameC c d = false) := Lib.hid (by rw [HCF.out]; rfl)
          go_wp2_with fail
          go_ret
          exact ⟨by rw [HE.out]; rfl, HK0.out.trans HK3.out⟩
        | true =>
          have HE : Hid (sameC c d = q5) := Lib.hid (by rw [HCF.out]; rfl)
          go_wp2_with fail
          refine (HG.out _ HK3.out).mono ?_
          rintro e w4 ⟨rfl, k4⟩
          have HK4 := Lib.hid (HK3.out.trans k4)
          clear k4
          go_wp2_with fail
          go_ret
          exact ⟨by rw [HE.out]; rfl, HK0.out.trans HK4.out⟩
end Go.Proofs.YtfpajgmdejlaeaaGreatDoor
