/-
  The document's line by value (wheelhouseref19): New.
-/
import Derived.Test.YtkmpdobojgiegaaGreatDoorQD19E
namespace Go.Proofs.YtkmpdobojgiegaaGreatDoor
open Go.RowKit
set_option linter.unusedSimpArgs false

theorem OwnS.slN {w : World} {B : Nat} {v : Value} {xs : List Stp} (h : OwnS stpR 3 w B 272 v xs) : ∃ a c, v = .slice a xs.length c ∧ SlAt stpR 3 w a xs.length xs := h.slat stpR_len
theorem OwnS.slatZ {w w' : World} {B g o n fc : Nat} {a : Option Addr} {vs : List Value} {xs : List Stp} (h : OwnS stpR 3 w B 272 (.slice a n fc) xs) (hg : g < B) (hw : setL w g o vs = w') : SlAt stpR 3 w' a xs.length xs := by
  obtain ⟨a2, fc2, he, hs2⟩ := OwnS.slN (OwnS.lowZ h (Nat.le_refl _) hg hw)
  injection he with h1 h2 h3
  subst h1
  exact hs2
theorem OwnS.lo {w : World} {B n fc : Nat} {a : Option Addr} {xs : List Stp} (h : OwnS stpR 3 w B 272 (.slice a n fc) xs) : ∀ ad, a = some ad → B ≤ ad.block := fun ad ha => by
  rcases h.2 with ⟨h1, -⟩ | ⟨g, cap, cur, hv, hg, -⟩
  · injection h1 with h1 _ _
    rw [h1] at ha; cases ha
  · injection hv with hv _ _
    rw [hv] at ha
    injection ha with ha
    rw [← ha]; exact hg
def NewP19 (w : World) (V : Int) (L : Ln) (e : Ending) (w' : World) : Prop :=
  ∃ a fc, e = .returned (.tuple #[.agg (lnR (if V = 0 then L else ⟨0, 0, 0, 0, 0, 0, [], [], 0, 0, []⟩) (.slice a (if V = 0 then L.first.length else 0) fc) (.slice none 0 0)).toArray, .int .i64 V]) ∧ (V = 0 → SlAt stpR 3 w' a L.first.length L.first ∧ ∀ ad, a = some ad → w.heap.size ≤ ad.block) ∧ Keeps (fun _ => False) w w'
set_option maxRecDepth 100000 in
set_option maxHeartbeats 2000000 in
theorem r19new_any (w : World) (c : Con) (hi : c.init.size ≤ 1073741824) : Calls Tryz.prog 50 #[conV c] w (NewP19 w (lineC0 c) (lnOf c)) := by
  obtain ⟨V, hV⟩ : ∃ V, V = lineC0 c := ⟨_, rfl⟩
  obtain ⟨L, hL⟩ : ∃ L, L = lnOf c := ⟨_, rfl⟩
  rw [← hV, ← hL]
  unfold lineC0 at hV
  unfold lnOf Ln.new at hL
  obtain ⟨c0, c1, c2, c3, c4, c5, c6, c7, c8, c9⟩ := c
  simp only at hV hL hi
  have HC := Lib.hid (fun W => r18check_any W c6 c7 c8)
  have hr := fun W => r14read_any W c9.data.toList (by rw [show c9.data.toList.length = c9.size by simp]; exact hi)
  obtain ⟨O, hO⟩ : ∃ O, O = brkP c9.data.toList := ⟨_, rfl⟩
  rw [← hO] at hV hL hr
  have hr2 : ∀ W, Calls Tryz.prog 119 #[.string c9] W fun e w' => BrkPost O W e w' := fun W => hr W
  have HR := Lib.hid hr2
  rw [show conV ⟨c0, c1, c2, c3, c4, c5, c6, c7, c8, c9⟩ = .agg #[.string c0, .int .i64 c1, .int .i64 c2, .int .i64 c3, .int .i64 c4, .int .i64 c5, .int .i64 c6, .int .i64 c7, .int .i64 c8, .string c9] from rfl]
  clear hr hr2 hi hO
  by_cases hk : ruleOk c6 c7 c8 = true
  · rw [if_pos hk] at hV
    rw [hk, if_pos rfl] at HC
    obtain ⟨ok, ops⟩ := O
    simp only at hV hL
    have HL := Lib.hid hL
    subst hV
    clear hk hL
    go_enter Tryz.func50, Tryz.ntmps50
    go_wp2_with fail
    refine (HC.out _).mono ?_
    rintro e w2 ⟨rfl, hw⟩
    obtain rfl := hw.symm
    go_wp2_with fail
    refine (HR.out _).mono ?_
    rintro e w2 ⟨⟨v, rfl, hO⟩, k2⟩
    obtain ⟨a, fc, rfl, hsl⟩ := OwnS.slN hO
    simp only at hO hsl ⊢
    have hX := ((Blk.new w 23 #[.string c0, .int .i64 c1, .int .i64 c2, .int .i64 c3, .int .i64 c4, .int .i64 c5, .int .i64 c6, .int .i64 c7, .int .i64 c8, .string c9]).alloc _).keeps k2 id
    have hZ := (Blk.new2 w _ 36 zero19).keeps k2 id
    have hK : Keeps (fun _ => False) w w2 := Keeps.trans (((Keeps.refl _ _).alloc _).alloc _) k2
    obtain ⟨⟨x0, x1, x2, x3, x4, x5, x6, x7, x8, x9⟩, -⟩ := hX.all10
    obtain ⟨⟨z0, z1, z2, z3, z4, z5, z6, z7, z8, z9, z10⟩, q0, q1, q2, q3, q4, q5, q6, q7, q8, q9, q10⟩ := hZ.all11
    have HZ := Lib.hid hZ
    have HK := Lib.hid hK
    have HSL := Lib.hid (show OwnS stpR 3 w2 (w.heap.size + 2) 272 (.slice a ops.length fc) ops from OwnS.moreS hO (by simp))
    obtain ⟨on, hon⟩ : ∃ on, on = ops.length := ⟨_, rfl⟩
    rw [← hon] at HSL ⊢
    have HON := Lib.hid hon
    clear hX hZ hK k2 hO hsl hon
    by_cases h0 : V = 0
    · subst h0
      go_wp2_with fail
      refine ret_cell_tmp rfl (w.heap.size + 1) 36 _ _ rfl (Blk.setL_ [_, _, _, _, _, _, _, _, _, _, _] 0 HZ.out) Tryz.underlying36 rfl (by kernel_rfl) rfl ?_
      refine ⟨a, fc, ?_, fun _ => ?_, Keeps.setLN (vs := [_, _, _, _, _, _, _, _, _, _, _]) HK.out (by omega)⟩
      · rw [if_pos rfl, if_pos rfl, HL.out, HON.out]; rfl
      · rw [HL.out]
        exact ⟨OwnS.slatZ HSL.out (g := w.heap.size + 1) (by omega) (vs := [_, _, _, _, _, _, _, _, _, _, _]) (o := 0) rfl, fun ad ha => Nat.le_trans (by omega) (OwnS.lo HSL.out ad ha)⟩
    · have h1 : (V != 0) = true := by simpa using h0
      have H0 := Lib.hid h0
      clear h0
      go_wp2_with fail
      refine ret_cell_tmp rfl (w.heap.size + 1) 36 _ _ rfl (Blk.setL_ [_, _, _, _, _, _, _, _, _, _, _] 0 HZ.out) Tryz.underlying36 rfl (by kernel_rfl) rfl ?_
      exact ⟨none, 0, by rw [if_neg H0.out, if_neg H0.out]; rfl, fun h => absurd h H0.out, Keeps.setLN (vs := [_, _, _, _, _, _, _, _, _, _, _]) HK.out (by omega)⟩
  · rw [if_neg hk] at hV
    rw [show ruleOk c6 c7 c8 = false by simpa using hk, if_neg (by decide)] at HC
    subst hV
    clear hk hL
    go_enter Tryz.func50, Tryz.ntmps50
    go_wp2_with fail
    refine (HC.out _).mono ?_
    rintro e w2 ⟨rfl, hw⟩
    obtain rfl := hw.symm
    go_wp2_with fail
    refine ret_cell_tmp rfl (w.heap.size + 1) 36 _ _ rfl (Blk.new2 _ _ _ _) Tryz.underlying36 rfl (by kernel_rfl) rfl ?_
    exact ⟨none, 0, by rw [if_neg (by decide), if_neg (by decide)]; rfl, (fun h => by cases h), by (repeat (first | (with_reducible assumption) | (with_reducible exact Keeps.refl _ _) | refine Keeps.drew ?_ | refine Keeps.drewN ?_ _ | refine Keeps.setCell ?_ (by simp) _ | refine Keeps.setRow ?_ (by simp) _ | refine Keeps.alloc ?_ _))⟩
end Go.Proofs.YtkmpdobojgiegaaGreatDoor
