/-
  ConsoleNew: which consoles there may be is what the chapter says.
-/
import Derived.Test.YtkmpdobojgiegaaGreatDoorQD33A
import Derived.Test.YtkmpdobojgiegaaGreatDoorQWorks33
import Derived.Test.YtkmpdobojgiegaaGreatDoorQOpsC
namespace Go.Proofs.YtkmpdobojgiegaaGreatDoor
open Go.RowKit Go.Maps

theorem dcR_size (x : Cns) (mo : Int) (bd : Nat) (fv lv sv wv dv : Value) : (dcR x mo bd fv lv sv wv dv).toArray.size = 34 := by simp [dcR, conR, lnR]
theorem NewP33.arr {w w' : World} {K mo : Int} {x : Cns} {e : Ending} (h : NewP33 w K x mo e w') : ∃ VA : Array Value, e = .returned (.tuple #[.agg VA, .int .i64 K]) ∧ VA.size = 34 ∧ VA.all (·.oneCell') = true ∧ Keeps (fun _ => False) w w' := by
  obtain ⟨v, he, h1, h2, k⟩ := h
  by_cases hk : K = 0
  · obtain ⟨fa, fc, la, lc, sa, sc, qa, qc, dv, rfl, -, -, -, -, hd⟩ := h2 hk
    obtain ⟨a, n, c, rfl⟩ := hd.slc
    exact ⟨_, he, dcR_size _ _ _ _ _ _ _ _, by simp [dcR, conR, lnR, Value.oneCell'], k⟩
  · obtain rfl := h1 hk
    exact ⟨_, he, rfl, by simp [zero33, Value.oneCell'], k⟩
/-- what is behind console.New: the pointer, or none -/
def NewV (K : Int) (v : Value) : Prop := (K = 0 ∧ ∃ xb, v = .pointer (some ⟨xb, 0, none⟩)) ∨ (K ≠ 0 ∧ v = .pointer none)
theorem cnew_v {w0 w : World} {FT : Nat → Prop} {st n bad : Nat} {most mostS : Int} {l : List SFile} {c : Con} (hS : StoF w0 w FT st most bad l n) (hn : n ≤ 999000) (hnm : c.name.size ≤ 1048000) (hi : c.init.size ≤ 1073741824) (hlen : (itemsC c l).length ≤ 1048576) (hz : ∀ x ∈ itemsC c l, x.body.size ≤ 1048576) :
    Calls Tryz.prog 9 #[conV c, .pointer (some ⟨st, 0, none⟩), .int .i64 mostS] w fun e w' => ∃ v, e = .returned (.tuple #[v, .int .i64 (newC c mostS bad l).1]) ∧ NewV (newC c mostS bad l).1 v ∧ Keeps (fun _ => False) w0 w' := by
  refine (cnew_any hS hn hnm hi hlen hz).mono ?_
  rintro e w' (⟨xb, h0, rfl, hF⟩ | ⟨h0, rfl, FT', hS', -, -⟩)
  · obtain ⟨F, FT', tag, lb, sb, pb, g, b, jb, -, hS', -⟩ := hF
    exact ⟨_, by rw [h0], .inl ⟨h0, xb, rfl⟩, hS'.from_⟩
  · exact ⟨_, rfl, .inr ⟨h0, rfl⟩, hS'.from_⟩
section
set_option maxRecDepth 100000 in
set_option maxHeartbeats 2000000 in
theorem consoleNew_walk (w : World) (c : Con) (m : Int) (_hc : ConOk c) (_hm : (Lit.int .i64 m).wf = true) (he : Ety w) : Calls Tryz.prog 3 #[.agg (conR c).toArray, .int .i64 m] w fun e w' => e = .returned (.bool true) ∧ Keeps (fun _ => False) w w' := by
  have HW := Lib.hid (fun W (k : Keeps (fun _ => False) w W) => works33 W (ety_keeps he k (fun _ _ => id)))
  have HE := Lib.hid he
  obtain ⟨K, hK⟩ : ∃ K, K = (newC c m 0 []).1 := ⟨_, rfl⟩
  have HN := Lib.hid (fun W (hnm : c.name.size ≤ 1048000) (hi : c.init.size ≤ 1073741824) => r33new_nil W c 100 m hnm hi)
  have HC := Lib.hid (fun w0 W FT st (hS : StoF w0 W FT st 100 0 [] 0) (hnm : c.name.size ≤ 1048000) (hi : c.init.size ≤ 1073741824) => cnew_v (mostS := m) (c := c) hS (by decide) hnm hi (by rw [items_nil]; decide) (by rw [items_nil]; intro x hx; cases hx))
  rw [← hK] at HN HC
  obtain ⟨X, hX⟩ : ∃ X : Cns, X = ⟨c, lnOf c, Sea.new m, [], false, 0⟩ := ⟨_, rfl⟩
  rw [← hX] at HN
  obtain ⟨c0, c1, c2, c3, c4, c5, c6, c7, c8, c9⟩ := c
  rw [show conV ⟨c0, c1, c2, c3, c4, c5, c6, c7, c8, c9⟩ = .agg #[.string c0, .int .i64 c1, .int .i64 c2, .int .i64 c3, .int .i64 c4, .int .i64 c5, .int .i64 c6, .int .i64 c7, .int .i64 c8, .string c9] from rfl] at HN HC
  rw [show (conR ⟨c0, c1, c2, c3, c4, c5, c6, c7, c8, c9⟩).toArray = #[.string c0, .int .i64 c1, .int .i64 c2, .int .i64 c3, .int .i64 c4, .int .i64 c5, .int .i64 c6, .int .i64 c7, .int .i64 c8, .string c9] from rfl]
  simp only at HN HC
  unfold docS at HN
  clear he hK hX _hc _hm
  by_cases h1 : (60 : Int) < c0.size
  · go_enter Tryz.func3, Tryz.ntmps3
    go_wp2_with fail
    refine (HW.out _ (by (repeat (first | (with_reducible assumption) | (with_reducible exact Keeps.refl _ _) | refine Keeps.drew ?_ | refine Keeps.drewN ?_ _ | refine Keeps.setCell ?_ (by simp) _ | refine Keeps.setRow ?_ (by simp) _ | refine Keeps.alloc ?_ _)))).mono ?_
    rintro e w2 ⟨rfl, k2⟩
    have HK := Lib.hid (Keeps.trans (show Keeps (fun _ => False) w _ by (repeat (first | (with_reducible assumption) | (with_reducible exact Keeps.refl _ _) | refine Keeps.drew ?_ | refine Keeps.drewN ?_ _ | refine Keeps.setCell ?_ (by simp) _ | refine Keeps.setRow ?_ (by simp) _ | refine Keeps.alloc ?_ _))) k2)
    clear k2
    go_wp2_with fail
    go_ret
    exact ⟨rfl, HK.out⟩
  by_cases h2 : (300 : Int) < c9.size
  · go_enter Tryz.func3, Tryz.ntmps3
    go_wp2_with fail
    refine (HW.out _ (by (repeat (first | (with_reducible assumption) | (with_reducible exact Keeps.refl _ _) | refine Keeps.drew ?_ | refine Keeps.drewN ?_ _ | refine Keeps.setCell ?_ (by simp) _ | refine Keeps.setRow ?_ (by simp) _ | refine Keeps.alloc ?_ _)))).mono ?_
    rintro e w2 ⟨rfl, k2⟩
    have HK := Lib.hid (Keeps.trans (show Keeps (fun _ => False) w _ by (repeat (first | (with_reducible assumption) | (with_reducible exact Keeps.refl _ _) | refine Keeps.drew ?_ | refine Keeps.drewN ?_ _ | refine Keeps.setCell ?_ (by simp) _ | refine Keeps.setRow ?_ (by simp) _ | refine Keeps.alloc ?_ _))) k2)
    clear k2
    go_wp2_with fail
    go_ret
    exact ⟨rfl, HK.out⟩
  have HC2 := Lib.hid (fun w0 W FT st hS => HC.out w0 W FT st hS (by omega) (by omega))
  have HN2 := Lib.hid (fun W => HN.out W (by omega) (by omega))
  clear HC HN
  go_enter Tryz.func3, Tryz.ntmps3
  go_wp2_with fail
  obtain ⟨W1, hW1⟩ : ∃ W1, W1 = w.alloc (.cells #[.string c0, .int .i64 c1, .int .i64 c2, .int .i64 c3, .int .i64 c4, .int .i64 c5, .int .i64 c6, .int .i64 c7, .int .i64 c8, .string c9] 23) := ⟨_, rfl⟩
  rw [← hW1]
  have k1 : Keeps (fun _ => False) w W1 := by rw [hW1]; (repeat (first | (with_reducible assumption) | (with_reducible exact Keeps.refl _ _) | refine Keeps.drew ?_ | refine Keeps.drewN ?_ _ | refine Keeps.setCell ?_ (by simp) _ | refine Keeps.setRow ?_ (by simp) _ | refine Keeps.alloc ?_ _))
  have hb1 : Blk W1 w.heap.size 23 #[.string c0, .int .i64 c1, .int .i64 c2, .int .i64 c3, .int .i64 c4, .int .i64 c5, .int .i64 c6, .int .i64 c7, .int .i64 c8, .string c9] := by rw [hW1]; exact Blk.new _ _ _
  have HB := Lib.hid (fun W (k : Keeps (fun _ => False) W1 W) => hb1.keeps k id)
  have HK1 := Lib.hid k1
  have HE1 := Lib.hid (ety_keeps HE.out k1 (fun _ _ => id))
  clear hW1 k1 hb1
  refine (snewF (w0 := W1) HE1.out (Keeps.refl _ _) (by decide) (by decide)).mono ?_
  rintro e w3 ⟨s, FT, rfl, S1, k3⟩
  have HC3 := Lib.hid (HC2.out W1 w3 FT s S1)
  obtain ⟨⟨x0, x1, x2, x3, x4, x5, x6, x7, x8, x9⟩, -⟩ := (HB.out _ k3).all10
  clear S1 k3
  go_wp2_with fail
  refine HC3.out.mono ?_
  rintro e w4 ⟨v4, rfl, hv4, k4⟩
  have HK4 := Lib.hid k4
  clear x0 x1 x2 x3 x4 x5 x6 x7 x8 x9
  obtain ⟨⟨x0, x1, x2, x3, x4, x5, x6, x7, x8, x9⟩, -⟩ := (HB.out _ k4).all10
  clear k4
  rcases hv4 with ⟨rfl, xb, rfl⟩ | ⟨hk, rfl⟩
  · go_wp2_with fail
    refine (HN2.out _).mono ?_
    rintro e w5 hN
    obtain ⟨VA, rfl, hsz, hone, k5⟩ := hN.arr
    have HSZ := Lib.hid hsz
    have HON := Lib.hid hone
    have HK5 := Lib.hid k5
    clear hN hsz hone k5
    go_wp2_with ((with_reducible show wpList _ _ _ (⟨none, .store 47 (.tmp 9) (.tmp 38), _, _, _, _⟩ :: _) _ _); go_must (refine wpList_store_row rfl 47 (.tmp 9) (.tmp 38) rfl w5.heap.size VA rfl rfl 47 zero33 (Blk.new _ _ _) (by rw [HSZ.out]; kernel_rfl) (by rw [HSZ.out]; rfl) HON.out ?_))
    refine (HW.out _ (Keeps.setRow (Keeps.alloc (HK1.out.trans (HK4.out.trans HK5.out)) _) (fun h => by have := (HK1.out.trans (HK4.out.trans HK5.out)).size; omega) _)).mono ?_
    rintro e w6 ⟨rfl, k6⟩
    have HK6 := Lib.hid (Keeps.trans (Keeps.setRow (Keeps.alloc (HK1.out.trans (HK4.out.trans HK5.out)) _) (fun h => by have := (HK1.out.trans (HK4.out.trans HK5.out)).size; omega) _) k6)
    clear k6
    go_wp2_with fail
    go_ret
    exact ⟨rfl, HK6.out⟩
  · have hk0 : (K == 0) = false := by simpa using hk
    clear hk
    go_wp2_with fail
    refine (HN2.out _).mono ?_
    rintro e w5 hN
    obtain ⟨VA, rfl, hsz, hone, k5⟩ := hN.arr
    have HSZ := Lib.hid hsz
    have HON := Lib.hid hone
    have HK5 := Lib.hid k5
    clear hN hsz hone k5
    go_wp2_with ((with_reducible show wpList _ _ _ (⟨none, .store 47 (.tmp 9) (.tmp 38), _, _, _, _⟩ :: _) _ _); go_must (refine wpList_store_row rfl 47 (.tmp 9) (.tmp 38) rfl w5.heap.size VA rfl rfl 47 zero33 (Blk.new _ _ _) (by rw [HSZ.out]; kernel_rfl) (by rw [HSZ.out]; rfl) HON.out ?_))
    refine (HW.out _ (Keeps.setRow (Keeps.alloc (HK1.out.trans (HK4.out.trans HK5.out)) _) (fun h => by have := (HK1.out.trans (HK4.out.trans HK5.out)).size; omega) _)).mono ?_
    rintro e w6 ⟨rfl, k6⟩
    have HK6 := Lib.hid (Keeps.trans (Keeps.setRow (Keeps.alloc (HK1.out.trans (HK4.out.trans HK5.out)) _) (fun h => by have := (HK1.out.trans (HK4.out.trans HK5.out)).size; omega) _) k6)
    clear k6
    go_wp2_with fail
    go_ret
    exact ⟨rfl, HK6.out⟩
end
end Go.Proofs.YtkmpdobojgiegaaGreatDoor
