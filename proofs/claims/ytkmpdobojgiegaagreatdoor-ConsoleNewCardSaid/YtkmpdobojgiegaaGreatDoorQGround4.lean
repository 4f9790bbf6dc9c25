/-
  Lower texts of this claim, joined.
-/
import Derived.Test.YtkmpdobojgiegaaGreatDoorQGround3
import Derived.Test.YtkmpdobojgiegaaGreatDoorQGround2
import Derived.Test.YtkmpdobojgiegaaGreatDoorQGround1
import Derived.RangeFuncNested
import Derived.RangeFuncBound
import Derived.RangeFuncCalls
import Derived.RangeFuncLeaves
import Derived.Shelf.Abstract
import Derived.Shelf.RegionOpen
import Derived.WalkKit
import Derived.OwnWalkIn
import Derived.TacticsInMore
import Derived.LoopNIn
import Derived.LoopIn
import Derived.Deep.DrawnRows
import Derived.Deep.DeepCutAuto
import Derived.Deep.CutBlock
import Derived.ScopeJumps
import Derived.WalkMore
/-
  slices.Delete of one element, at somebody who is there.
-/
namespace Go.Proofs.YtkmpdobojgiegaaGreatDoor
open Go.RowKit

def mbrR (m : Mbr) : List Value := [.int .i64 m.id, .int .i64 m.lvl]
theorem mbrR_len (x : Mbr) : (mbrR x).length = 2 := rfl
theorem mbrR_ones (y : Mbr) : ∀ u ∈ mbrR y, u.oneCell' = true := by intro u hu; simp [mbrR] at hu; rcases hu with rfl | rfl <;> rfl
end Go.Proofs.YtkmpdobojgiegaaGreatDoor

/-
  seat: where somebody stands in the row of all who are there.
-/
namespace Go.Proofs.YtkmpdobojgiegaaGreatDoor
open Go.RowKit

theorem OwnS.sla {α : Type} {R : α → List Value} {size : Nat} {w : World} {B : Nat} {e : TypeId} {v : Value} {xs : List α} (h : OwnS R size w B e v xs) (hR : ∀ x, (R x).length = size) : ∃ a c, v = .slice a xs.length c ∧ SlAt R size w a xs.length xs := by
  obtain ⟨b, cap, hv, h1, h2, h3, h4⟩ := h.shape hR
  refine ⟨b, cap, hv, rfl, fun hn => ?_⟩
  obtain ⟨g, hg, -, hlt, -⟩ := h3 (by omega)
  exact ⟨g, 0, hg, hlt, fun i x j u hx hu => by rw [Nat.zero_add]; exact (h4 g hg i x j u hx hu).1⟩
theorem mbr_at {w : World} {a : Option Addr} {n : Nat} {l : List Mbr} (h : SlAt mbrR 2 w a n l) {i : Nat} (hi : i < n) : ∃ x b off, l[i]? = some x ∧ a = some ⟨b, off, none⟩ ∧ b < w.heap.size ∧ w.cell? ⟨b, off + i * 2, none⟩ = some (.int .i64 x.id) ∧ w.cell? ⟨b, off + i * 2 + 1, none⟩ = some (.int .i64 x.lvl) := by
  obtain ⟨x, hx⟩ : ∃ x, l[i]? = some x := ⟨_, List.getElem?_eq_getElem (by rw [h.1]; exact hi)⟩
  obtain ⟨b, off, ha, hb, hc⟩ := h.2 (by omega)
  exact ⟨x, b, off, hx, ha, hb, hc i x 0 _ hx rfl, hc i x 1 _ hx rfl⟩
theorem take_all_m {α : Type} {p : α → Bool} {l : List α} {i : Nat} {x : α} (hx : l[i]? = some x) (h : ∀ y ∈ l.take i, p y = false) (hp : p x = false) : ∀ y ∈ l.take (i + 1), p y = false := by
  obtain ⟨hi, e⟩ := List.getElem?_eq_some_iff.1 hx
  intro y hy
  rw [List.take_succ_eq_append_getElem hi, List.mem_append] at hy
  rcases hy with hy | hy
  · exact h y hy
  · rw [List.mem_singleton] at hy; rw [hy, e]; exact hp
theorem find1_any (w : World) (x y : Int) (b : Nat) (who : Int) (h : w.cell? ⟨b, 0, none⟩ = some (.int .i64 who)) : Calls Tryz.prog 145 #[.agg #[.int .i64 x, .int .i64 y], .pointer (some ⟨b, 0, none⟩)] w fun e w' => e = .returned (.bool (decide (x = who))) ∧ Keeps (fun _ => False) w w' := by
  have hb : (x == who) = decide (x = who) := rfl
  have h2 : ∀ o, (w.alloc o).cell? ⟨b, 0, none⟩ = some (.int .i64 who) := fun o => (World.cell?_of_block (w := w) (((Keeps.refl (fun _ => False) w).alloc o).block _ (block_lt_of_cell h) id)).trans h
  go_enter Tryz.func145, Tryz.ntmps145
  go_wp2_with fail
  go_ret
  exact ⟨rfl, by (repeat (first | (with_reducible assumption) | (with_reducible exact Keeps.refl _ _) | refine Keeps.drew ?_ | refine Keeps.drewN ?_ _ | refine Keeps.setCell ?_ (by simp) _ | refine Keeps.setRow ?_ (by simp) _ | refine Keeps.alloc ?_ _))⟩
set_option maxRecDepth 100000 in
theorem sindexm (w : World) (a : Option Addr) (n c : Nat) (l : List Mbr) (h : SlAt mbrR 2 w a n l) (hn : n ≤ 4611686018427387904) (b : Nat) (who : Int) (hb : w.cell? ⟨b, 0, none⟩ = some (.int .i64 who)) :
    Calls Tryz.prog 144 #[.slice a n c, .func (.func 145) #[] #[.pointer (some ⟨b, 0, none⟩)]] w fun e w' => (∃ r, e = .returned (.int .i64 r) ∧ FindIs l who r) ∧ Keeps (fun _ => False) w w' := by
  have HLN := Lib.hid h.1
  have HL := Lib.hid h
  have HB := Lib.hid hb
  clear h hb
  go_enter Tryz.func144, Tryz.ntmps144
  go_wp2_with fail
  go_loopw [8] (fun u wr => ∃ i : Nat, u = .int .i64 i ∧ i ≤ n ∧ Hid ((∀ y ∈ l.take i, decide (y.id = who) = false) ∧ Keeps (fun _ => False) w wr)) (fun u _ => n - (intOf u).toNat)
  case atStart => exact ⟨0, rfl, Nat.zero_le _, Lib.hid ⟨by simp, Keeps.refl _ _⟩⟩
  case round =>
    obtain ⟨i, rfl, hi, HI⟩ := hrel
    have hK := HI.out.2
    by_cases hlt : i < n
    · obtain ⟨x, g, off, hx, rfl, hg, y0, y1⟩ := mbr_at (HL.out.keeps hK (fun _ _ => id)) hlt
      have HF := Lib.hid (find1_any wr x.id x.lvl b who ((World.cell?_of_block (w := w) (hK.block _ (block_lt_of_cell HB.out) id)).trans HB.out))
      have HX := Lib.hid hx
      have HKK := Lib.hid hK
      clear hx hK
      cases hfx : decide (x.id = who) with
      | true =>
        have HE := Lib.hid (of_decide_eq_true hfx)
        rw [hfx] at HF
        clear hfx
        go_wp2_with fail
        refine HF.out.mono ?_
        rintro e w2 ⟨rfl, k2⟩
        have HK2 := Lib.hid k2
        clear k2
        go_wp2_with fail
        go_ret
        exact ⟨⟨_, rfl, .inl ⟨i, x, by rw [HLN.out]; exact hlt, rfl, HX.out, HE.out⟩⟩, HKK.out.trans HK2.out⟩
      | false =>
        have HN := Lib.hid (take_all_m HX.out HI.out.1 hfx)
        rw [hfx] at HF
        clear hfx
        go_wp2_with fail
        refine HF.out.mono ?_
        rintro e w2 ⟨rfl, k2⟩
        have HK2 := Lib.hid k2
        clear k2
        go_wp2_with fail
        go_roundw
        case rel => exact ⟨i + 1, by go_num, by omega, Lib.hid ⟨HN.out, HKK.out.trans HK2.out⟩⟩
        case measure => simp [intOf] <;> omega
    · have hie : i = n := by omega
      subst hie
      have HE := Lib.hid (show who ∉ l.map Mbr.id from fun hm => by
        have h1 := HI.out.1
        rw [List.take_of_length_le (by rw [HLN.out]; exact Nat.le_refl _)] at h1
        obtain ⟨m, hm, e⟩ := List.mem_map.1 hm
        exact of_decide_eq_false (h1 m hm) e)
      go_wp2_with fail
      go_ret
      exact ⟨⟨_, rfl, .inr ⟨rfl, HE.out⟩⟩, hK⟩
end Go.Proofs.YtkmpdobojgiegaaGreatDoor

/-
  runner: New, Done.
-/
namespace Go.Proofs.YtkmpdobojgiegaaGreatDoor
open Go.RowKit

/-- a runner in memory: its steps (in a row of its own), when it began, how many were done, whether it is over -/
def RunAt (w : World) (rb : Nat) (l : List Stp) (start : Int) (d : Nat) (over : Bool) (v : Value) : Prop :=
  Blk w rb 294 #[v, .int .i64 start, .int .i64 d, .bool over, .int .i64 (start + sumS l)] ∧ OwnS stpR 3 w 0 272 v l
theorem stpR_ones (y : Stp) : ∀ u ∈ stpR y, u.oneCell' = true := by intro u hu; simp [stpR] at hu; rcases hu with rfl | rfl | rfl <;> rfl
theorem SlAt.src {α : Type} {R : α → List Value} {size : Nat} {w : World} {a : Option Addr} {l : List α} (c : Nat) (h : SlAt R size w a l.length l) (hR : ∀ x, (R x).length = size) (hsz : 0 < size) : SrcS R size w (.slice a l.length c) l := by
  refine ⟨a, c, rfl, ?_⟩
  cases l with
  | nil => exact .inl rfl
  | cons x0 l0 =>
    right
    obtain ⟨b, off, rfl, hb, hc⟩ := h.2 (by simp)
    refine ⟨_, rfl, fun j u hj => ?_⟩
    have hjl : j < (x0 :: l0).length * size := by rw [← flat_len hR]; exact (List.getElem?_eq_some_iff.1 hj).1
    have hi : j / size < (x0 :: l0).length := Nat.div_lt_of_lt_mul (by rw [Nat.mul_comm]; exact hjl)
    have hm : j % size < size := Nat.mod_lt _ hsz
    have hd : j / size * size + j % size = j := by have := Nat.div_add_mod j size; rw [Nat.mul_comm] at this; exact this
    obtain ⟨x, hx⟩ : ∃ x, (x0 :: l0)[j / size]? = some x := ⟨_, List.getElem?_eq_getElem hi⟩
    obtain ⟨v, hv⟩ : ∃ v, (R x)[j % size]? = some v := ⟨_, List.getElem?_eq_getElem (by rw [hR]; exact hm)⟩
    have hf := flat_get hR (x0 :: l0) _ x _ v hx hv
    rw [hd, hj] at hf
    injection hf with hf
    subst hf
    have := hc _ x _ _ hx hv
    rw [Nat.add_assoc, hd] at this
    rw [add_plain]
    exact this
theorem take_right {l : List Stp} {i : Nat} {x : Stp} (hx : l[i]? = some x) : l.take (i + 1) = l.take i ++ [x] := by rw [List.take_add_one, hx]; rfl
theorem sumS_snoc (l : List Stp) (x : Stp) : sumS (l ++ [x]) = sumS l + x.n := by
  induction l with
  | nil => simp [sumS]
  | cons y l ih => rw [List.cons_append, sumS, ih, sumS]; omega
theorem drop_at {l : List Stp} {i : Nat} {x : Stp} (hx : l[i]? = some x) : l.drop i = x :: l.drop (i + 1) := by
  have hi := (List.getElem?_eq_some_iff.1 hx).1
  rw [List.drop_eq_getElem_cons hi]
  congr 1
  exact (List.getElem?_eq_some_iff.1 hx).2
theorem rdone_any (w : World) (rb : Nat) (l : List Stp) (start : Int) (d : Nat) (over : Bool) (v : Value) (h : RunAt w rb l start d over v) : Calls Tryz.prog 185 #[.pointer (some ⟨rb, 0, none⟩)] w fun e w' => e = .returned (.bool over) ∧ w' = w := by
  have c3 := h.1.cell 3
  simp only [List.getElem?_toArray, List.getElem?_cons_zero, List.getElem?_cons_succ] at c3
  clear h
  go_enter Tryz.func185, Tryz.ntmps185
  go_wp2
  go_ret
  exact ⟨rfl, rfl⟩
theorem rnew_early (w : World) (v : Value) (now : Int) (h : now < 0 ∨ 1099511627776 < now) : Calls Tryz.prog 128 #[v, .int .i64 now] w fun e w' => e = .returned (.tuple #[.pointer none, .int .i64 1]) ∧ w' = w := by
  have HI := Lib.hid (fun W => calcis_any W now)
  rw [isT_false h] at HI
  clear h
  go_enter Tryz.func128, Tryz.ntmps128
  go_wp2_with fail
  refine (HI.out _).mono ?_
  rintro e w2 ⟨rfl, rfl⟩
  go_wp2_with fail
  go_ret2
  exact ⟨rfl, rfl⟩
theorem OwnS.made0 {α : Type} {R : α → List Value} {size : Nat} (w : World) (e : TypeId) : OwnS R size (w.alloc (.cells #[] e)) w.heap.size e (.slice (some ⟨w.heap.size, 0, none⟩) 0 0) [] :=
  World.ownsRow_made w #[] 0 (by simp) (by unfold maxLen; omega) (by simp)
/-- behind New -/
def NewPost (w : World) (l : List Stp) (now : Int) (e : Ending) (w' : World) : Prop :=
  ((∃ rb v, checkS l now = 0 ∧ e = .returned (.tuple #[.pointer (some ⟨rb, 0, none⟩), .int .i64 0]) ∧ RunAt w' rb l now 0 false v ∧ w.heap.size ≤ rb ∧ ∀ i, v.ownBlock = some i → w.heap.size ≤ i) ∨
    (checkS l now ≠ 0 ∧ e = .returned (.tuple #[.pointer none, .int .i64 (checkS l now)]))) ∧ Keeps (fun _ => False) w w'
set_option maxRecDepth 100000 in
set_option maxHeartbeats 1000000 in
theorem rnew_any (w : World) (a : Option Addr) (c : Nat) (l : List Stp) (hl : SlAt stpR 3 w a l.length l) (hn : l.length ≤ 1073741824) (now : Int) : Calls Tryz.prog 128 #[.slice a l.length c, .int .i64 now] w fun e w' => NewPost w l now e w' := by
  by_cases hnow : now < 0 ∨ tickMax < now
  · refine (rnew_early w _ now hnow).mono ?_
    rintro e w' ⟨rfl, rfl⟩
    have hc : checkS l now = 1 := by unfold checkS; rw [if_pos hnow]
    exact ⟨.inr ⟨by rw [hc]; decide, by rw [hc]⟩, Keeps.refl _ _⟩
  · obtain ⟨C, hC⟩ : ∃ C, C = checkS l now := ⟨_, rfl⟩
    have hC2 : C = chkS (tickMax - now) l := by rw [hC]; unfold checkS; rw [if_neg hnow]
    unfold tickMax at hnow hC2
    have HI := Lib.hid (fun W => calcis_any W now)
    rw [isT_true (n := now) (by omega)] at HI
    have HC := Lib.hid hC
    have HC2 := Lib.hid hC2
    have HL := Lib.hid hl
    have hn1 : 0 ≤ now := by omega
    have hn2 : now ≤ 1099511627776 := by omega
    clear hC hC2 hl hnow
    go_enter Tryz.func128, Tryz.ntmps128
    go_wp2_with fail
    refine (HI.out _).mono ?_
    rintro e w2 ⟨rfl, hw⟩
    obtain rfl : w = w2 := hw.symm
    clear HI
    go_wp2_with fail
    obtain ⟨n, hnl⟩ : ∃ n, n = l.length := ⟨_, rfl⟩
    rw [← hnl] at hn ⊢
    have HNL := Lib.hid hnl
    clear hnl
    go_loopw [6, 17] (fun u6 u17 wr => ∃ (i : Nat) (E : Int), i ≤ n ∧ u17 = .int .i64 i ∧ u6 = .int .i64 E ∧ now ≤ E ∧ E ≤ 1099511627776 ∧ Hid (E = now + sumS (l.take i) ∧ chkS (1099511627776 - E) (l.drop i) = C ∧ Keeps (fun _ => False) w wr)) (fun _ u17 _ => n - (intOf u17).toNat)
    case atStart => exact ⟨0, now, Nat.zero_le _, rfl, rfl, Int.le_refl _, hn2, Lib.hid ⟨by simp [sumS], by rw [List.drop_zero]; exact HC2.out.symm, Keeps.refl _ _⟩⟩
    case round =>
      obtain ⟨i, E, hi, rfl, rfl, hE1, hE2, HR⟩ := hrel
      rename World => wr
      by_cases hlt : i < n
      · obtain ⟨x, hx⟩ : ∃ x, l[i]? = some x := ⟨_, List.getElem?_eq_getElem (by rw [← HNL.out]; exact hlt)⟩
        obtain ⟨b, off, rfl, hb, hcc⟩ := (HL.out.keeps HR.out.2.2 (fun _ _ => id)).2 (by rw [← HNL.out]; omega)
        have x0 : wr.cell? ⟨b, off + i * 3, none⟩ = some (.int .i64 x.kind) := hcc i x 0 _ hx rfl
        have x1 : wr.cell? ⟨b, off + i * 3 + 1, none⟩ = some (.string (str x.s)) := hcc i x 1 _ hx rfl
        have x2 : wr.cell? ⟨b, off + i * 3 + 2, none⟩ = some (.int .i64 x.n) := hcc i x 2 _ hx rfl
        have HX := Lib.hid hx
        have hch := HR.out.2.1
        rw [drop_at hx, chkS] at hch
        have HRI := Lib.hid (fun W => rright_any W x)
        have hr0 := @rightS_n x
        obtain ⟨r, hr⟩ : ∃ r, r = rightS x := ⟨_, rfl⟩
        rw [← hr] at hch HRI hr0
        have HRR := Lib.hid hr
        obtain ⟨k0, s0, n0⟩ := x
        simp only at HRI hr0 hch
        have HCH := Lib.hid hch
        clear hcc hx hr hch
        cases r with
        | false =>
          go_wp2_with fail
          refine (HRI.out _).mono ?_
          rintro e w3 ⟨rfl, k3⟩
          have HK := Lib.hid ((HR.out.2.2.alloc (.cells #[.int .i64 k0, .string (str s0), .int .i64 n0] 272)).trans k3)
          clear k3 x0 x1 x2
          go_wp2_with fail
          go_ret2
          have hc1 : C = 1 := by have := HCH.out; simp at this; exact this.symm
          exact ⟨.inr ⟨by rw [← HC.out, hc1]; decide, by rw [← HC.out, hc1]; rfl⟩, HK.out⟩
        | true =>
          have hx2 : 0 ≤ n0 := hr0 rfl
          have hch := HCH.out
          rw [if_pos rfl] at hch
          go_wp2_with fail
          refine (HRI.out _).mono ?_
          rintro e w3 ⟨rfl, k3⟩
          have hbk := (Blk.new wr 272 #[.int .i64 k0, .string (str s0), .int .i64 n0]).keeps k3 id
          obtain ⟨y0, y1, y2⟩ := hbk.cells3
          have HK := Lib.hid ((HR.out.2.2.alloc (.cells #[.int .i64 k0, .string (str s0), .int .i64 n0] 272)).trans k3)
          clear k3 x0 x1 x2 hbk
          by_cases hle : E + n0 ≤ 1099511627776
          · rw [if_neg (by omega)] at hch
            have HCC := Lib.hid hch
            have HA := Lib.hid (fun W => cadd_ok W E n0 ⟨by omega, hE2⟩ hx2 hle)
            clear hch HCH
            go_wp2_with fail
            refine (HA.out _).mono ?_
            rintro e w4 ⟨rfl, hw⟩
            obtain rfl : w3 = w4 := hw.symm
            go_wp2_with fail
            go_roundw
            case rel => exact ⟨i + 1, E + n0, by omega, by go_num, rfl, by omega, hle, Lib.hid ⟨by rw [take_right HX.out, sumS_snoc, HR.out.1, Int.add_assoc], by rw [← HCC.out]; congr 1; omega, HK.out⟩⟩
            case measure => simp [intOf]; omega
          · rw [if_pos (by omega)] at hch
            have HCC := Lib.hid hch
            have HA := Lib.hid (fun W => cadd_bad W E n0 ⟨by omega, hE2⟩ (by omega))
            clear hch HCH
            go_wp2_with fail
            refine (HA.out _).mono ?_
            rintro e w4 ⟨⟨q, hq, rfl⟩, hw⟩
            obtain rfl : w3 = w4 := hw.symm
            have hq2 : (q != 0) = true := by simpa using hq
            go_wp2_with fail
            go_ret2
            exact ⟨.inr ⟨by rw [← HC.out, ← HCC.out]; decide, by rw [← HC.out, ← HCC.out]; rfl⟩, HK.out⟩
      · obtain rfl : i = n := by omega
        have hch := HR.out.2.1
        rw [List.drop_of_length_le (by rw [← HNL.out]; exact Nat.le_refl _), chkS] at hch
        have hE := HR.out.1
        rw [List.take_of_length_le (by rw [← HNL.out]; exact Nat.le_refl _)] at hE
        have HE := Lib.hid hE
        have HCH := Lib.hid hch
        have hsl := SlAt.src c (HL.out.keeps (HR.out.2.2.alloc (.cells #[] 272)) (fun _ _ => id)) stpR_len (by omega)
        rw [← HNL.out] at hsl
        have HSL := Lib.hid hsl
        clear hch hE hsl
        go_wp2_with (with_reducible show wpList _ _ _ (⟨some 37, _, _, _, _, _⟩ :: _) _ _; go_must (refine wpList_append_src stpR 3 stpR_len (by decide) rfl (.tmp 35) (.tmp 36) 34 rfl wr.heap.size 272 (.agg #[.int .i64 0, .string ⟨#[]⟩, .int .i64 0]) 32 Tryz.underlying34 (by kernel_rfl) rfl (by omega) (.slice (some ⟨wr.heap.size, 0, none⟩) 0 0) [] rfl (OwnS.made0 wr _) (.slice a i c) l rfl HSL.out stpR_ones (by rw [← HNL.out]; simp; omega) (by simp) ?_; intro v7 w7 O7 k7; rw [List.nil_append] at O7; obtain ⟨a7, c7, rfl⟩ := O7.sl; have HO7 := Lib.hid O7; have HK7 := Lib.hid k7; clear O7 k7))
        go_ret2
        have k7 : Keeps (fun _ => False) wr w7 := ((Keeps.refl _ wr).alloc _).and_ HK7.out (fun j hj e => by omega)
        have hsz : wr.heap.size ≤ w7.heap.size := k7.size
        have hw := HR.out.2.2.size
        refine ⟨.inl ⟨w7.heap.size, .slice a7 l.length c7, by rw [← HC.out]; exact HCH.out.symm, rfl, ⟨?_, ?_⟩, by omega, fun j hj => ?_⟩, (HR.out.2.2.trans k7).alloc _⟩
        · rw [← HE.out]; exact Blk.new _ _ _
        · exact (OwnS.keeps HO7.out ((Keeps.refl (fun _ => False) w7).alloc _) (fun _ _ _ _ => id)).moreS (Nat.zero_le _)
        · have := (World.ownsRow.lt HO7.out j hj).1; omega
end Go.Proofs.YtkmpdobojgiegaaGreatDoor

/-
  A range over a function whose rounds may read what the iterator hands them: the law for a loop whose body goes on in every round. No program in sight.
-/
namespace Go.Proofs.YtkmpdobojgiegaaGreatDoor
open Go.RowKit

/-- beyond B a block that is no row may have turned; else there are new blocks alone -/
def Turn (B : Nat) (W W' : World) : Prop := Keeps (fun i => B ≤ i ∧ ∀ cs t f, W.heap[i]? ≠ some (.cells cs t f)) W W'
/-- what a round leaves: rows of some types, and what is no row, may have changed -/
def Rounds (Ts : TypeId → Prop) (W W' : World) : Prop := Keeps (fun i => (∃ t cs, Ts t ∧ Blk W i t cs) ∨ ∀ cs t f, W.heap[i]? ≠ some (.cells cs t f)) W W'
theorem Turn.none_ {B : Nat} {W W' : World} (h : Keeps (fun _ => False) W W') : Turn B W W' := h.none_
theorem Turn.trans_ {B : Nat} {a b c : World} (h : Turn B a b) (k : Turn B b c) : Turn B a c :=
  Keeps.and_ h k fun i hi e => by
    refine ⟨e.1, fun cs t f ha => ?_⟩
    by_cases hs : B ≤ i ∧ ∀ cs t f, a.heap[i]? ≠ some (.cells cs t f)
    · exact hs.2 cs t f ha
    · exact e.2 cs t f ((h.block i hi hs).trans ha)
theorem keeps_put {S : Nat → Prop} (W : World) (l : Nat) (o : Obj) (h : S l) : Keeps S W (W.putObj l o) := by
  have hg := grownBy_putObj' W l o
  exact (Keeps.refl S W).grown hg (fun k e _ => by cases e; exact h)
theorem Turn.put {B : Nat} {W : World} {l : Nat} {o o' : Obj} (hB : B ≤ l) (h : W.heap[l]? = some o) (ho : o.isCells = false) : Turn B W (W.putObj l o') :=
  keeps_put W l o' ⟨hB, fun cs t f e => by rw [h] at e; cases e; cases ho⟩
/-- the iterator hands over x, of which Nx holds -/
theorem range_own {P : Program} {g : Operand} {ps : Array Tmp} {assign body : Code} {Q : Exit → Act → World → Prop} {a : Act} {w : World} {n : Nat}
    {gf : Nat} {lb : Array Value} (hg : a.eval g = .func (.func gf) #[] lb) (eg : ∀ args w, (callFunc gf args).run P w = .ok (.enter gf args) w)
    {α : Type} (encs : α → Array Value) (hps : ∀ x, (encs x).size = ps.size) (Ts : TypeId → Prop) (I : List α → World → Prop) (Nx : List α → α → Nat → World → Prop)
    (hI : ∀ s W W', I s W → Turn w.heap.size W W' → I s W') (hN : ∀ s x k W W', Nx s x k W → Turn w.heap.size W W' → Nx s x k W') (h0 : I [] w) (a₁ : α → Act)
    (hassign : ∀ (l : Nat) (x : α) (W : World) (K : Act → World → Prop), K (a₁ x) W →
      assign.wpIn (Fence.wide.inRound l) n P (Exit.then K (fun _ _ _ => False)) { tmps := (ps.zip (encs x)).foldl (fun t (p, v) => t.setIfInBounds p v) a.tmps, defers := [] } W)
    (hbody : ∀ (l : Nat) (pre : List α) (x : α) (W0 W : World), I pre W0 → Turn w.heap.size W0 W → Nx pre x W0.heap.size W →
      body.wpIn (Fence.wide.inRound l) n P (fun e _ W' => e = .normal ∧ Keeps (fun i => ∃ t cs, Ts t ∧ Blk W i t cs) W W' ∧ I (pre ++ [x]) W') (a₁ x) W)
    (S : List α → Prop)
    (hcall : ∀ (l : Nat) (J : List α → World → Prop) (W : World), Turn w.heap.size w W → (∀ s W W', J s W → Keeps (fun _ => False) W W' → J s W') →
      (∀ pre x W0 W1, J pre W0 → Keeps (fun _ => False) W0 W1 → Nx pre x W0.heap.size W1 → YieldAt Fence.wide n P l (encs x) W1 fun e W' => e = .returned (.bool true) ∧ J (pre ++ [x]) W' ∧ Rounds Ts W1 W') → J [] W →
      CallsIn Fence.wide (n + 1) P gf (#[.func (.yield l) #[] #[]] ++ lb) W fun e W' => (∃ v, e = .returned v) ∧ ∃ xs, S xs ∧ J xs W')
    (hdone : ∀ (D : Nat) (xs : List α) (W : World), w.heap.size ≤ D → S xs → I xs W → W.heap[D]? = some (.deferred (some [])) → Q .normal { a with defers := { target := .collected D, args := #[] } :: a.defers } W) :
    (Code.rangeFunc g ps assign body).wpIn Fence.wide (n + 2) P Q a w := by
  refine wpIn_rangeFunc fun fn hfn => ?_
  obtain ⟨rec, hrec⟩ : ∃ rec : LoopState → Option Code → Loop, rec = fun st pe => { state := st, pending := pe, fn, tmps := a.tmps, params := ps, assign, body, defers := w.heap.size } := ⟨_, rfl⟩
  obtain ⟨W1, hW1⟩ : ∃ W1, W1 = (w.alloc (.deferred (some []))).alloc (.loop (rec .ready none)) := ⟨_, rfl⟩
  have k1 : Keeps (fun _ => False) w W1 := by rw [hW1]; exact ((Keeps.refl _ _).alloc _).alloc _
  have hL1 : W1.heap[w.heap.size + 1]? = some (.loop (rec .ready none)) := by
    rw [hW1]
    have := World.alloc_heap_new (w.alloc (.deferred (some []))) (.loop (rec .ready none))
    rwa [World.size_alloc] at this
  have hD1 : W1.heap[w.heap.size]? = some (.deferred (some [])) := by
    rw [hW1]
    exact (Below.heap_alloc _ _ _ (by simp)).trans (World.alloc_heap_new w _)
  refine ⟨w.heap.size + 1, [{ target := .collected w.heap.size, args := #[] }], W1, { target := .fn (.func gf) lb, args := #[.func (.yield (w.heap.size + 1)) #[] #[]] }, W1, gf,
    #[.func (.yield (w.heap.size + 1)) #[] #[]] ++ lb, W1, ?_, ?_, fun _ _ => trivial, ?_, (fun h => by cases h), ?_⟩
  · rw [hW1, hrec]; exact run_enterLoop_outer _ _ _ _ _
  · simp only [resolve, hg]
    simp [go_sem]
  · simp [invoke, go_sem, eg]
  · -- the book: the record is ready, and no call is deferred
    refine (hcall (w.heap.size + 1) (fun pre W => I pre W ∧ W.heap[w.heap.size + 1]? = some (.loop (rec .ready none)) ∧ W.heap[w.heap.size]? = some (.deferred (some []))) W1 (Turn.none_ k1)
      (fun s A B hs kk => ⟨hI s A B hs.1 (Turn.none_ kk), (kk.block _ (Array.getElem?_eq_some_iff.1 hs.2.1).1 id).trans hs.2.1, (kk.block _ (Array.getElem?_eq_some_iff.1 hs.2.2).1 id).trans hs.2.2⟩) ?_ ⟨hI _ _ _ h0 (Turn.none_ k1), hL1, hD1⟩).mono ?_
    · rintro pre x W0 W ⟨hi, hl, hd⟩ k01 hx
      replace hl : W.heap[w.heap.size + 1]? = _ := (k01.block _ (Array.getElem?_eq_some_iff.1 hl).1 id).trans hl
      replace hd : W.heap[w.heap.size]? = _ := (k01.block _ (Array.getElem?_eq_some_iff.1 hd).1 id).trans hd
      have hlt : w.heap.size + 1 < W.heap.size := (Array.getElem?_eq_some_iff.1 hl).1
      have hy := run_yield (P := P) (args := encs x) hl (by rw [hrec]; exact hps x)
      rw [hrec] at hy
      refine ⟨fn, _, assign, body, hy, roundIn_of_wpIn hfn (hassign _ x W _ ⟨_, run_beginRound hl (by rw [hrec]), ?_⟩)⟩
      obtain ⟨W2, hW2⟩ : ∃ W2, W2 = W.putObj (w.heap.size + 1) (.loop { rec .ready none with state := .busy }) := ⟨_, rfl⟩
      rw [← hW2]
      have t2 : Turn w.heap.size W W2 := by rw [hW2]; exact Turn.put (by omega) hl rfl
      have p2 : Keeps (fun i => i = w.heap.size + 1) W W2 := by rw [hW2]; exact keeps_put _ _ _ rfl
      have hl2 : W2.heap[w.heap.size + 1]? = some (.loop { rec .ready none with state := .busy }) := by rw [hW2]; exact World.putObj_heap_same hlt
      have hd2 : W2.heap[w.heap.size]? = some (.deferred (some [])) := by rw [hW2]; exact (World.putObj_heap_other (by omega)).trans hd
      refine wpIn_mono (hbody _ pre x W0 W2 hi ((Turn.none_ k01).trans_ t2) (hN _ _ _ _ _ hx t2)) ?_
      rintro e a3 W3 ⟨rfl, k3, hi3⟩
      have hnb : ∀ (i : Nat) (o : Obj), W2.heap[i]? = some o → o.isCells = false → W3.heap[i]? = some o := fun i o ho hc =>
        (k3.block i (Array.getElem?_eq_some_iff.1 ho).1 (fun ⟨t, cs, _, hb⟩ => by unfold Blk at hb; rw [ho] at hb; cases hb; cases hc)).trans ho
      have hl3 := hnb _ _ hl2 rfl
      have hd3 := hnb _ _ hd2 rfl
      have hr := run_endRound (P := P) none hl3
      obtain ⟨W4, hW4⟩ : ∃ W4, W4 = W3.putObj (w.heap.size + 1) (.loop (rec .ready none)) := ⟨_, rfl⟩
      have t4 : Turn w.heap.size W3 W4 := by rw [hW4]; exact Turn.put (by omega) hl3 rfl
      have p4 : Keeps (fun i => i = w.heap.size + 1) W3 W4 := by rw [hW4]; exact keeps_put _ _ _ rfl
      refine ⟨_, W4, by rw [hW4]; rw [hrec] at hr ⊢; exact hr, rfl, ⟨hI _ _ _ hi3 t4, ?_, ?_⟩, ?_⟩
      · rw [hW4]; exact World.putObj_heap_same (Array.getElem?_eq_some_iff.1 hl3).1
      · rw [hW4]; exact (World.putObj_heap_other (by omega)).trans hd3
      · have q2 : Rounds Ts W W2 := p2.mono fun i _ e => .inr fun cs t f h => by rw [e] at h; rw [hl] at h; cases h
        refine ((q2.and_ k3 ?_).and_ p4 ?_)
        · rintro i hi' ⟨t, cs, ht, hb⟩
          by_cases e : i = w.heap.size + 1
          · unfold Blk at hb; rw [e, hl2] at hb; cases hb
          · left
            refine ⟨t, cs, ht, ?_⟩
            unfold Blk at hb ⊢
            rw [← p2.block i hi' e]; exact hb
        · intro i _ e
          exact .inr fun cs t f h => by rw [e] at h; rw [hl] at h; cases h
    · rintro e W2 ⟨⟨v, rfl⟩, xs, hS, hi, hl, hd⟩
      refine ⟨none, _, by have := run_endLoop (P := P) hl (by rw [hrec]; simp); rw [hrec] at this; exact this, hdone _ xs _ (Nat.le_refl _) hS (hI _ _ _ hi (Turn.put (by omega) hl rfl)) ((World.putObj_heap_other (by omega)).trans hd)⟩
end Go.Proofs.YtkmpdobojgiegaaGreatDoor

/-
  A range over a function whose rounds may leave early, and may write what lay ahead of the loop. No program in sight.
-/
namespace Go.Proofs.YtkmpdobojgiegaaGreatDoor
open Go.RowKit

/-- what lies at or beyond B and is no row stays -/
def NoRec (B : Nat) (W W' : World) : Prop := Keeps (fun i => i < B ∨ ∃ cs t f, W.heap[i]? = some (.cells cs t f)) W W'
theorem NoRec.refl (B : Nat) (W : World) : NoRec B W W := Keeps.refl _ _
theorem NoRec.same {B : Nat} {W W' : World} (h : NoRec B W W') {i : Nat} {o : Obj} (hB : B ≤ i) (ho : W.heap[i]? = some o) (hc : o.isCells = false) : W'.heap[i]? = some o :=
  (h.block i (Array.getElem?_eq_some_iff.1 ho).1 (fun hs => by
    rcases hs with hs | ⟨cs, t, f, hs⟩
    · omega
    · rw [ho] at hs; cases hs; cases hc)).trans ho
theorem NoRec.of_blk {B : Nat} {W W' : World} {S : Nat → Prop} (h : Keeps S W W') (hS : ∀ i, S i → i < B ∨ ∃ t cs, Blk W i t cs) : NoRec B W W' :=
  h.mono fun i _ hs => (hS i hs).imp id fun ⟨t, cs, hb⟩ => ⟨cs, t, (0, 0), hb⟩
/-- how a round may be left -/
def stopPost {α : Type} (B : Nat) (Kp : World → World → Prop) (I : List α → World → Prop) (Ix : Code → List α → World → Prop) (xs : List α) (W : World) : Exit → Act → World → Prop
  | .normal, _, W' => NoRec B W W' ∧ Kp W W' ∧ I xs W'
  | .ret, _, W' => NoRec B W W' ∧ Ix .ret xs W'
  | .exit id, _, W' => NoRec B W W' ∧ Ix (.exit id) xs W'
  | .goto t, _, W' => NoRec B W W' ∧ Ix (.goto t) xs W'
  | .panic _, _, _ => False
  | .outgrown, _, _ => False
theorem range_stop {P : Program} {g : Operand} {ps : Array Tmp} {assign body : Code} {Q : Exit → Act → World → Prop} {a : Act} {w : World} {n : Nat}
    {gf : Nat} {lb : Array Value} (hg : a.eval g = .func (.func gf) #[] lb) (eg : ∀ args w, (callFunc gf args).run P w = .ok (.enter gf args) w)
    {α : Type} (encs : α → Array Value) (hps : ∀ x, (encs x).size = ps.size) (Kp : World → World → Prop) (hKt : ∀ {A B C : World}, Kp A B → Kp B C → Kp A C) (hKb : ∀ {A B : World}, Turn w.heap.size A B → Kp A B)
    (Ok : List α → α → Prop) (I : List α → World → Prop) (Ix : Code → List α → World → Prop)
    (hI : ∀ s W W', I s W → Turn w.heap.size W W' → I s W') (hIx : ∀ c s W W', Ix c s W → Turn w.heap.size W W' → Ix c s W') (h0 : I [] w)
    (Ax : α → Act → World → Prop) (hAx : ∀ x a' W W', Ax x a' W → Turn w.heap.size W W' → Ax x a' W')
    (hassign : ∀ (l : Nat) (x : α) (W : World) (K : Act → World → Prop), (∀ a' W', Keeps (fun _ => False) W W' → Ax x a' W' → K a' W') →
      assign.wpIn (Fence.wide.inRound l) n P (Exit.then K (fun _ _ _ => False)) { tmps := (ps.zip (encs x)).foldl (fun t (p, v) => t.setIfInBounds p v) a.tmps, defers := [] } W)
    (hbody : ∀ (l : Nat) (pre : List α) (x : α) (a' : Act) (W : World), I pre W → Ok pre x → Ax x a' W → w.heap.size ≤ W.heap.size →
      body.wpIn (Fence.wide.inRound l) n P (stopPost w.heap.size Kp I Ix (pre ++ [x]) W) a' W)
    (S Sp : List α → Prop)
    (hcall : ∀ (l : Nat) (J Jx : List α → World → Prop) (W : World), Turn w.heap.size w W → (∀ s W W', J s W → Keeps (fun _ => False) W W' → J s W') → (∀ s W W', Jx s W → Keeps (fun _ => False) W W' → Jx s W') →
      (∀ pre x W0, J pre W0 → Ok pre x → YieldAt Fence.wide n P l (encs x) W0 fun e W' => (e = .returned (.bool true) ∧ J (pre ++ [x]) W' ∧ Kp W0 W') ∨ (e = .returned (.bool false) ∧ Jx (pre ++ [x]) W')) → J [] W →
      CallsIn Fence.wide (n + 1) P gf (#[.func (.yield l) #[] #[]] ++ lb) W fun e W' => (∃ v, e = .returned v) ∧ ((∃ xs, S xs ∧ J xs W') ∨ ∃ pre, Sp pre ∧ Jx pre W'))
    (hdone : ∀ (D : Nat) (xs : List α) (W : World), w.heap.size ≤ D → S xs → I xs W → W.heap[D]? = some (.deferred (some [])) → Q .normal { a with defers := { target := .collected D, args := #[] } :: a.defers } W)
    (hstop : ∀ (D : Nat) (c : Code) (pre : List α) (W : World), w.heap.size ≤ D → Sp pre → Ix c pre W → W.heap[D]? = some (.deferred (some [])) → c.wpIn Fence.wide (n + 2) P Q { a with defers := { target := .collected D, args := #[] } :: a.defers } W) :
    (Code.rangeFunc g ps assign body).wpIn Fence.wide (n + 2) P Q a w := by
  refine wpIn_rangeFunc fun fn hfn => ?_
  obtain ⟨rec, hrec⟩ : ∃ rec : LoopState → Option Code → Loop, rec = fun st pe => { state := st, pending := pe, fn, tmps := a.tmps, params := ps, assign, body, defers := w.heap.size } := ⟨_, rfl⟩
  obtain ⟨W1, hW1⟩ : ∃ W1, W1 = (w.alloc (.deferred (some []))).alloc (.loop (rec .ready none)) := ⟨_, rfl⟩
  have k1 : Keeps (fun _ => False) w W1 := by rw [hW1]; exact ((Keeps.refl _ _).alloc _).alloc _
  have hL1 : W1.heap[w.heap.size + 1]? = some (.loop (rec .ready none)) := by
    rw [hW1]
    have := World.alloc_heap_new (w.alloc (.deferred (some []))) (.loop (rec .ready none))
    rwa [World.size_alloc] at this
  have hD1 : W1.heap[w.heap.size]? = some (.deferred (some [])) := by
    rw [hW1]
    exact (Below.heap_alloc _ _ _ (by simp)).trans (World.alloc_heap_new w _)
  refine ⟨w.heap.size + 1, [{ target := .collected w.heap.size, args := #[] }], W1, { target := .fn (.func gf) lb, args := #[.func (.yield (w.heap.size + 1)) #[] #[]] }, W1, gf,
    #[.func (.yield (w.heap.size + 1)) #[] #[]] ++ lb, W1, ?_, ?_, fun _ _ => trivial, ?_, (fun h => by cases h), ?_⟩
  · rw [hW1, hrec]; exact run_enterLoop_outer _ _ _ _ _
  · simp only [resolve, hg]
    simp [go_sem]
  · simp [invoke, go_sem, eg]
  · refine (hcall (w.heap.size + 1) (fun pre W => I pre W ∧ W.heap[w.heap.size + 1]? = some (.loop (rec .ready none)) ∧ W.heap[w.heap.size]? = some (.deferred (some [])))
      (fun pre W => ∃ c, Ix c pre W ∧ W.heap[w.heap.size + 1]? = some (.loop (rec .done (some c))) ∧ W.heap[w.heap.size]? = some (.deferred (some []))) W1 (Turn.none_ k1)
      (fun s A B hs kk => ⟨hI s A B hs.1 (Turn.none_ kk), (kk.block _ (Array.getElem?_eq_some_iff.1 hs.2.1).1 id).trans hs.2.1, (kk.block _ (Array.getElem?_eq_some_iff.1 hs.2.2).1 id).trans hs.2.2⟩)
      (fun s A B hs kk => by
        obtain ⟨c, hc, hl, hd⟩ := hs
        exact ⟨c, hIx c s A B hc (Turn.none_ kk), (kk.block _ (Array.getElem?_eq_some_iff.1 hl).1 id).trans hl, (kk.block _ (Array.getElem?_eq_some_iff.1 hd).1 id).trans hd⟩)
      ?_ ⟨hI _ _ _ h0 (Turn.none_ k1), hL1, hD1⟩).mono ?_
    · rintro pre x W ⟨hi, hl, hd⟩ hx
      have hlt : w.heap.size + 1 < W.heap.size := (Array.getElem?_eq_some_iff.1 hl).1
      have hy := run_yield (P := P) (args := encs x) hl (by rw [hrec]; exact hps x)
      rw [hrec] at hy
      refine ⟨fn, _, assign, body, hy, roundIn_of_wpIn hfn (hassign _ x W _ ?_)⟩
      clear hy
      intro a' Wa ka hax
      replace hi := hI _ _ _ hi (Turn.none_ ka)
      replace hl : Wa.heap[w.heap.size + 1]? = _ := (ka.block _ (Array.getElem?_eq_some_iff.1 hl).1 id).trans hl
      replace hd : Wa.heap[w.heap.size]? = _ := (ka.block _ (Array.getElem?_eq_some_iff.1 hd).1 id).trans hd
      replace hlt : w.heap.size + 1 < Wa.heap.size := (Array.getElem?_eq_some_iff.1 hl).1
      refine ⟨_, run_beginRound hl (by rw [hrec]), ?_⟩
      obtain ⟨W2, hW2⟩ : ∃ W2, W2 = Wa.putObj (w.heap.size + 1) (.loop { rec .ready none with state := .busy }) := ⟨_, rfl⟩
      rw [← hW2]
      have t2 : Turn w.heap.size Wa W2 := by rw [hW2]; exact Turn.put (by omega) hl rfl
      have hl2 : W2.heap[w.heap.size + 1]? = some (.loop { rec .ready none with state := .busy }) := by rw [hW2]; exact World.putObj_heap_same hlt
      have hd2 : W2.heap[w.heap.size]? = some (.deferred (some [])) := by rw [hW2]; exact (World.putObj_heap_other (by omega)).trans hd
      refine wpIn_mono (hbody _ pre x a' W2 (hI _ _ _ hi t2) hx (hAx _ _ _ _ hax t2) (by have := t2.size; omega)) ?_
      have fin : ∀ (jump : Option Code) (W3 : World), NoRec w.heap.size W2 W3 →
          (Instr.endRound (w.heap.size + 1) jump).run P W3 = .ok (.bool jump.isNone) (W3.putObj (w.heap.size + 1) (.loop (rec (if jump.isNone then .ready else .done) jump))) ∧
          Turn w.heap.size W3 (W3.putObj (w.heap.size + 1) (.loop (rec (if jump.isNone then .ready else .done) jump))) ∧
          (W3.putObj (w.heap.size + 1) (.loop (rec (if jump.isNone then .ready else .done) jump))).heap[w.heap.size + 1]? = some (.loop (rec (if jump.isNone then .ready else .done) jump)) ∧
          (W3.putObj (w.heap.size + 1) (.loop (rec (if jump.isNone then .ready else .done) jump))).heap[w.heap.size]? = some (.deferred (some [])) := fun jump W3 hk3 => by
        have hl3 := hk3.same (by omega) hl2 rfl
        have hr := run_endRound (P := P) jump hl3
        refine ⟨by rw [hrec] at hr ⊢; exact hr, Turn.put (by omega) hl3 rfl, World.putObj_heap_same (Array.getElem?_eq_some_iff.1 hl3).1, (World.putObj_heap_other (by omega)).trans (hk3.same (Nat.le_refl _) hd2 rfl)⟩
      rintro e a3 W3 hp
      cases e with
      | normal =>
        obtain ⟨hk3, hkp3, hi3⟩ := hp
        obtain ⟨hr, t4, hl4, hd4⟩ := fin none W3 hk3
        exact ⟨_, _, hr, .inl ⟨rfl, ⟨hI _ _ _ hi3 t4, hl4, hd4⟩, hKt (hKt (hKb (Turn.none_ ka)) (hKb t2)) (hKt hkp3 (hKb t4))⟩⟩
      | ret =>
        obtain ⟨hk3, hi3⟩ := hp
        obtain ⟨hr, t4, hl4, hd4⟩ := fin (some .ret) W3 hk3
        exact ⟨_, _, hr, .inr ⟨rfl, .ret, hIx _ _ _ _ hi3 t4, hl4, hd4⟩⟩
      | exit id =>
        obtain ⟨hk3, hi3⟩ := hp
        obtain ⟨hr, t4, hl4, hd4⟩ := fin (some (.exit id)) W3 hk3
        exact ⟨_, _, hr, .inr ⟨rfl, .exit id, hIx _ _ _ _ hi3 t4, hl4, hd4⟩⟩
      | goto t =>
        obtain ⟨hk3, hi3⟩ := hp
        obtain ⟨hr, t4, hl4, hd4⟩ := fin (some (.goto t)) W3 hk3
        exact ⟨_, _, hr, .inr ⟨rfl, .goto t, hIx _ _ _ _ hi3 t4, hl4, hd4⟩⟩
      | panic ch => exact hp.elim
      | outgrown => exact hp.elim
    · rintro e W2 ⟨⟨v, rfl⟩, (⟨xs, hS, hi, hl, hd⟩ | ⟨pre, hSp, c, hi, hl, hd⟩)⟩
      · exact ⟨none, _, by have := run_endLoop (P := P) hl (by rw [hrec]; simp); rw [hrec] at this; exact this, hdone _ xs _ (Nat.le_refl _) hS (hI _ _ _ hi (Turn.put (by omega) hl rfl)) ((World.putObj_heap_other (by omega)).trans hd)⟩
      · exact ⟨some c, _, by have := run_endLoop (P := P) hl (by rw [hrec]; simp); rw [hrec] at this; exact this, hstop _ c pre _ (Nat.le_refl _) hSp (hIx c _ _ _ hi (Turn.put (by omega) hl rfl)) ((World.putObj_heap_other (by omega)).trans hd)⟩
end Go.Proofs.YtkmpdobojgiegaaGreatDoor

/-
  runner: the iterator of a runner's steps with their times.
-/
namespace Go.Proofs.YtkmpdobojgiegaaGreatDoor
open Go.RowKit

theorem rtimes_any (w : World) (p : Option Addr) : Calls Tryz.prog 235 #[.pointer p] w fun e w' => e = .returned (.func (.func 258) #[] #[.pointer (some ⟨w.heap.size, 0, none⟩)]) ∧
      w'.cell? ⟨w.heap.size, 0, none⟩ = some (.pointer p) ∧ w'.heap.size = w.heap.size + 1 ∧ Keeps (fun _ => False) w w' := by
  have hmf : ∀ (fn : Fn) (first cap : Array Value) (w : World), (Instr.makeFunc fn first cap).run Tryz.prog w = .ok (.func fn first cap) w := fun _ _ _ _ => rfl
  go_enter Tryz.func235, Tryz.ntmps235
  go_wp2_with fail
  go_ret
  exact ⟨rfl, (Blk.new w 125 #[.pointer p]).cell 0, by simp, by (repeat (first | (with_reducible assumption) | (with_reducible exact Keeps.refl _ _) | refine Keeps.drew ?_ | refine Keeps.drewN ?_ _ | refine Keeps.setCell ?_ (by simp) _ | refine Keeps.setRow ?_ (by simp) _ | refine Keeps.alloc ?_ _))⟩
def dueE (p : DueP) : Array Value := #[.int .i64 p.1, .agg #[.int .i64 p.2.kind, .string (str p.2.s), .int .i64 p.2.n]]
theorem RunAt.keeps {w w' : World} {rb : Nat} {l : List Stp} {start : Int} {d : Nat} {over : Bool} {v : Value} {S : Nat → Prop} (h : RunAt w rb l start d over v) (k : Keeps S w w') (h1 : ¬ S rb) (h2 : ∀ i, v.ownBlock = some i → ¬ S i) : RunAt w' rb l start d over v := by
  refine ⟨h.1.keeps k h1, ⟨h.2.1, ?_⟩⟩
  rcases h.2.2 with h0 | ⟨g, cap, cur, hv, hg, hh, r⟩
  · exact .inl h0
  · exact .inr ⟨g, cap, cur, hv, hg, (k.block g (Array.getElem?_eq_some_iff.1 hh).1 (h2 g (by rw [hv]; simp [Value.ownBlock]))).trans hh, r⟩
theorem RunAt.lt {w : World} {rb : Nat} {l : List Stp} {start : Int} {d : Nat} {over : Bool} {v : Value} (h : RunAt w rb l start d over v) : rb < w.heap.size ∧ ∀ i, v.ownBlock = some i → i < w.heap.size :=
  ⟨h.1.lt, fun i hi => (World.ownsRow.lt h.2 i hi).2⟩
theorem RunAt.cells {w : World} {rb : Nat} {l : List Stp} {start : Int} {d : Nat} {over : Bool} {v : Value} (h : RunAt w rb l start d over v) : ∃ a c, v = .slice a l.length c ∧ SlAt stpR 3 w a l.length l := by
  obtain ⟨a, c, hv, -, -, h1, h2⟩ := h.2.shape stpR_len
  refine ⟨a, c, hv, rfl, fun hn => ?_⟩
  obtain ⟨g, rfl, -, hlt, -⟩ := h1 hn
  exact ⟨g, 0, rfl, hlt, fun i x j u hx hu => by have := (h2 g rfl i x j u hx hu).1; simpa using this⟩
theorem items_take {t : Int} {l : List Stp} {i : Nat} {x : Stp} (h : l[i]? = some x) : (itemsS t l).take (i + 1) = (itemsS t l).take i ++ [(t + sumS (l.take (i + 1)), x)] := by
  rw [List.take_add_one, items_get h]; rfl
set_option maxRecDepth 100000 in
set_option maxHeartbeats 1000000 in
theorem times_in (lp m : Nat) (w : World) (rb : Nat) (l : List Stp) (start : Int) (d : Nat) (over : Bool) (v : Value) (h : RunAt w rb l start d over v) (hok : StpsOk l start) (hn : l.length ≤ 1073741824) (b0 : Nat) (h0 : w.cell? ⟨b0, 0, none⟩ = some (.pointer (some ⟨rb, 0, none⟩)))
    (Z : Nat → Prop) (hz1 : ¬ Z rb) (_hz2 : ¬ Z b0) (hz3 : ∀ i, v.ownBlock = some i → ¬ Z i)
    (J Jx : List DueP → World → Prop) (hJ : ∀ s W W', J s W → Keeps (fun _ => False) W W' → J s W')
    (hY : ∀ pre x W0, J pre W0 → (∃ r, itemsS start l = pre ++ x :: r) → YieldAt Fence.wide m Tryz.prog lp (dueE x) W0 fun e W' => (e = .returned (.bool true) ∧ J (pre ++ [x]) W' ∧ Keeps Z W0 W') ∨ (e = .returned (.bool false) ∧ Jx (pre ++ [x]) W')) (hJ0 : J [] w) :
    CallsIn Fence.wide (m + 1) Tryz.prog 258 #[.func (.yield lp) #[] #[], .pointer (some ⟨b0, 0, none⟩)] w fun e W' => (∃ v, e = .returned v) ∧ ((∃ xs, xs = itemsS start l ∧ J xs W') ∨ ∃ pre, (∃ r, itemsS start l = pre ++ r) ∧ Jx pre W') := by
  obtain ⟨a, c, rfl, hsl⟩ := h.cells
  have hlt := h.lt
  have hb0 : b0 < w.heap.size := block_lt_of_cell h0
  have c0 := h.1.cell 0
  have c1 := h.1.cell 1
  simp only [List.getElem?_toArray, List.getElem?_cons_zero, List.getElem?_cons_succ] at c0 c1
  have HH := Lib.hid h
  have HSL := Lib.hid hsl
  have HJ := Lib.hid hJ
  have HY := Lib.hid hY
  have HJ0 := Lib.hid hJ0
  have hpos : ∀ x ∈ l, 0 ≤ x.n := fun x hx => rightS_n (hok.right x hx)
  have HP := Lib.hid hpos
  have hlo := hok.lo
  have hhi := hok.hi
  unfold tickMax at hhi
  have hs0 := sumS_pos l hpos
  obtain ⟨n, hnl⟩ : ∃ n, n = l.length := ⟨_, rfl⟩
  rw [← hnl] at c0 hn
  have HNL := Lib.hid hnl
  clear h hsl hJ hY hJ0 hpos hok hnl hlt
  refine callsIn_of_wp Tryz.func258 rfl trivial ?_
  simp only [Tryz.ntmps258, List.size_toArray, List.length_cons, List.length_nil, Nat.reduceAdd, Nat.reduceSub, Array.replicate_succ, Array.replicate_zero, List.push_toArray, List.append_toArray, List.nil_append, List.cons_append]
  gi_wp2_with fail
  gi_loopw [3, 15] (fun u3 u15 wr => ∃ (i : Nat) (at_ : Int), u15 = .int .i64 i ∧ u3 = .int .i64 at_ ∧ i ≤ n ∧ 0 ≤ at_ ∧ at_ ≤ 1099511627776 ∧ Hid (at_ = start + sumS (l.take i) ∧ J ((itemsS start l).take i) wr ∧ SlAt stpR 3 wr a l.length l ∧ Keeps Z w wr)) (fun _ u15 _ => n - (intOf u15).toNat)
  case atStart => exact ⟨0, start, rfl, rfl, Nat.zero_le _, hlo, by omega, Lib.hid ⟨by simp [sumS], HJ0.out, HSL.out, Keeps.refl _ _⟩⟩
  case round =>
    clear HJ0
    obtain ⟨i, at_, rfl, rfl, hi, ha1, ha2, HI⟩ := hrel
    rename World => wr
    by_cases hlt : i < n
    · obtain ⟨x, hx⟩ : ∃ x, l[i]? = some x := ⟨_, List.getElem?_eq_getElem (by rw [← HNL.out]; exact hlt)⟩
      obtain ⟨b, off, rfl, hb, hcc⟩ := HI.out.2.2.1.2 (by rw [← HNL.out]; omega)
      have x0 : wr.cell? ⟨b, off + i * 3, none⟩ = some (.int .i64 x.kind) := hcc i x 0 _ hx rfl
      have x1 : wr.cell? ⟨b, off + i * 3 + 1, none⟩ = some (.string (str x.s)) := hcc i x 1 _ hx rfl
      have x2 : wr.cell? ⟨b, off + i * 3 + 2, none⟩ = some (.int .i64 x.n) := hcc i x 2 _ hx rfl
      have hxn := HP.out x (List.mem_of_getElem? hx)
      have hst := sumS_take HP.out (i + 1)
      have hE : at_ + x.n = start + sumS (l.take (i + 1)) := by rw [take_right hx, sumS_snoc, HI.out.1, Int.add_assoc]
      have hit := items_take (t := start) hx
      rw [← hE] at hit
      have hrest : itemsS start l = (itemsS start l).take i ++ (at_ + x.n, x) :: (itemsS start l).drop (i + 1) := by
        conv => lhs; rw [← List.take_append_drop (i + 1) (itemsS start l)]
        rw [hit, List.append_assoc]; rfl
      have hw1 : IntKind.i64.wrap (at_ + x.n) = at_ + x.n := wrap_in (by omega) (by omega)
      have hk1 : Keeps (fun _ => False) wr (wr.alloc (.cells #[.int .i64 x.kind, .string (str x.s), .int .i64 x.n] 272)) := by (repeat (first | (with_reducible assumption) | (with_reducible exact Keeps.refl _ _) | refine Keeps.drew ?_ | refine Keeps.drewN ?_ _ | refine Keeps.setCell ?_ (by simp) _ | refine Keeps.setRow ?_ (by simp) _ | refine Keeps.alloc ?_ _))
      have hJ1 := HJ.out _ _ _ HI.out.2.1 hk1
      obtain ⟨fn, tmps, assign, body, hy, hR⟩ := HY.out _ (at_ + x.n, x) _ hJ1 ⟨_, hrest⟩
      have HIT := Lib.hid hit
      have HE := Lib.hid hE
      have HK1 := Lib.hid hk1
      have HX := Lib.hid hx
      have hE1 : 0 ≤ at_ + x.n := by omega
      have hE2 : at_ + x.n ≤ 1099511627776 := by omega
      obtain ⟨k0, s0, n0⟩ := x
      dsimp only [dueE] at hy hR x0 x1 x2 hw1 hxn hE1 hE2
      have HR := Lib.hid hR
      clear hcc hx hit hrest hJ1 hR hE hk1 hst
      gi_wp2_with fail
      refine HR.out.mono ?_
      rintro e W3 (⟨rfl, hJ3, hk3⟩ | ⟨rfl, hJx3⟩)
      · have HJ3 := Lib.hid hJ3
        have hk03 : Keeps Z w W3 := HI.out.2.2.2.trans (HK1.out.none_.trans hk3)
        have hs3 : SlAt stpR 3 W3 (some ⟨b, off, none⟩) l.length l := by
          have h1 := HH.out.keeps hk03 hz1 hz3
          obtain ⟨a2, c2, hv2, hs2⟩ := h1.cells
          injection hv2 with e1 e2 e3
          subst e1
          exact hs2
        have HK := Lib.hid hk03
        have HS3 := Lib.hid hs3
        clear hJ3 hk3 HR HI hy hs3 hk03 x0 x1 x2
        gi_wp2_with fail
        exact ⟨⟨i + 1, at_ + n0, by go_num, rfl, by omega, hE1, hE2, Lib.hid ⟨HE.out, by rw [HIT.out]; exact HJ3.out, HS3.out, HK.out⟩⟩, by simp [intOf]; omega⟩
      · have HJ3 := Lib.hid hJx3
        clear hJx3 HR HI hy x0 x1 x2
        gi_wp2_with fail
        refine bodyPost_ret (results_none rfl _ _ _) rfl ?_
        exact ⟨⟨_, rfl⟩, .inr ⟨_, ⟨(itemsS start l).drop (i + 1), by rw [← HIT.out, List.take_append_drop]⟩, HJ3.out⟩⟩
    · obtain rfl : i = n := by omega
      have hh : (itemsS start l).take i = itemsS start l := List.take_of_length_le (by rw [items_len, ← HNL.out]; exact Nat.le_refl _)
      have HH2 := Lib.hid hh
      clear hh
      gi_wp2_with fail
      go_end0
      exact ⟨⟨_, rfl⟩, .inl ⟨_, rfl, by rw [← HH2.out]; exact HI.out.2.1⟩⟩
end Go.Proofs.YtkmpdobojgiegaaGreatDoor

/-
  An append of many elements out of another own slice, in a walk with a fence (a round). No program in sight.
-/
namespace Go.Proofs.YtkmpdobojgiegaaGreatDoor
open Go.RowKit

section
variable {P : Program} {α : Type}
theorem run_append_many (R : α → List Value) (size : Nat) (hR : ∀ x, (R x).length = size) (hsz : 0 < size) (h1 : ∀ x, ∀ u ∈ R x, u.oneCell' = true) {w : World} (t ot : TypeId)
    (B B2 : Nat) (e : TypeId) (z : Value) (bytes : Nat) (ht : P.underlying t = some (.slice e))
    (hi : (P.info? e).map (fun i => (i.zero, i.size, i.bytes)) = some (some z, size, bytes)) (hz : z.cells.size = size) (hb16 : bytes ≤ 4096)
    (v v2 : Value) (xs ys : List α) (hown : OwnS R size w B e v xs) (hown2 : OwnS R size w B2 e v2 ys)
    (hlen : xs.length + ys.length ≤ 17179869184) (hbase : B ≤ w.heap.size) :
    ∃ v' w', (Builtin.append_ #[t, t] ot #[v, v2]).run P w = .ok v' w' ∧ OwnS R size w' B e v' (xs ++ ys) ∧ Keeps (fun i => v.ownBlock = some i) w w' := by
  obtain ⟨i, hi0, hzi, hsi, hbi⟩ := info_parts hi
  obtain ⟨a2, c2, hv2, hle2, -, hne2, hcl2⟩ := hown2.shape hR
  subst hv2
  cases ys with
  | nil =>
    obtain ⟨a1, c1, rfl, hle1, -, -, -⟩ := hown.shape hR
    refine ⟨.slice a1 xs.length c1, w, ?_, by simpa using hown, Keeps.refl _ _⟩
    cases a2 with
    | none => exact run_append_nothing w t t ot e i ht hi0 a1 xs.length c1 hle1 _ (Src.ofNil w ht c2)
    | some ad => exact run_append_nothing w t t ot e i ht hi0 a1 xs.length c1 hle1 _ (Src.ofSlice w ht ad 0 c2 [] (by simp) (fun j u hj => by simp at hj) (fun u hu => by cases hu))
  | cons y r =>
    obtain ⟨g, rfl, -, -, -⟩ := hne2 (by simp)
    obtain ⟨v', w', hrun, h2, h3, -⟩ := run_append_own (P := P) w B t ot e i z size bytes ht hi0 hzi hsi hbi hz hsz v xs.length _ hown ⟨g, 0, none⟩ (y :: r).length c2 ((y :: r).map R).flatten (by rw [flat_len hR]) (by
      intro j u hj
      have hjl : j < (y :: r).length * size := by rw [← flat_len hR]; exact (List.getElem?_eq_some_iff.1 hj).1
      obtain ⟨q, hq⟩ : ∃ q, q = j / size := ⟨_, rfl⟩
      have hjq : j = q * size + j % size := by rw [hq, Nat.mul_comm]; exact (Nat.div_add_mod j size).symm
      have hql : q < (y :: r).length := by rw [hq]; exact Nat.div_lt_of_lt_mul (by rw [Nat.mul_comm]; exact hjl)
      obtain ⟨x0, hx0⟩ : ∃ x0, (y :: r)[q]? = some x0 := ⟨_, List.getElem?_eq_getElem hql⟩
      have hml : j % size < (R x0).length := by rw [hR]; exact Nat.mod_lt _ hsz
      obtain ⟨u0, hu0⟩ : ∃ u0, (R x0)[j % size]? = some u0 := ⟨_, List.getElem?_eq_getElem hml⟩
      have h5 := flat_get hR (y :: r) q x0 (j % size) u0 hx0 hu0
      rw [← hjq] at h5
      rw [h5] at hj
      injection hj with hj
      subst hj
      have h6 := (hcl2 g rfl q x0 (j % size) u0 hx0 hu0).1
      rw [← hjq] at h6
      rw [Addr.add_lit, Nat.zero_add]
      exact h6) (by
      intro u hu
      obtain ⟨l, hl, hul⟩ := List.mem_flatten.1 hu
      obtain ⟨x0, _, rfl⟩ := List.mem_map.1 hl
      exact h1 x0 u hul) (by unfold maxLen; omega) (by
      have := Nat.mul_le_mul (show xs.length + (y :: r).length ≤ 17179869184 by omega) hb16
      omega) hbase
    refine ⟨v', w', hrun, ?_, (Keeps.refl _ _).grown h3 (fun k hk _ => hk)⟩
    unfold OwnS
    rw [List.map_append, List.flatten_append, List.length_append]
    exact h2
/-- the same as a step of a walk with a fence -/
theorem wpListIn_append_many {F : Fence} {n : Nat} (R : α → List Value) (size : Nat) (hR : ∀ x, (R x).length = size) (hsz : 0 < size) (h1 : ∀ x, ∀ u ∈ R x, u.oneCell' = true) {w : World} {ops : Array Oper} {rest : List Oper} {o : Oper} {a : Act} {Q : Exit → Act → World → Prop} (hgd : o.guard = none) (s x : Operand) (t : TypeId)
    (ho : o.op = .call { callee := .builtin .append, args := #[s, x], argTypes := #[t, t] }) (B B2 : Nat) (e : TypeId) (z : Value) (bytes : Nat) (ht : P.underlying t = some (.slice e))
    (hi : (P.info? e).map (fun i => (i.zero, i.size, i.bytes)) = some (some z, size, bytes)) (hz : z.cells.size = size) (hb16 : bytes ≤ 4096)
    (v v2 : Value) (xs ys : List α) (hs : a.eval s = v) (hown : OwnS R size w B e v xs) (hx : a.eval x = v2) (hown2 : OwnS R size w B2 e v2 ys)
    (hlen : xs.length + ys.length ≤ 17179869184) (hbase : B ≤ w.heap.size)
    (h : ∀ v' w', OwnS R size w' B e v' (xs ++ ys) → Keeps (fun i => v.ownBlock = some i) w w' → wpListIn F n P ops Q rest (a.put o.dst v') w') : wpListIn F n P ops Q (o :: rest) a w := by
  refine wpListIn_plain hgd fun K hK => ?_
  obtain ⟨v', w', hrun, h2, h3⟩ := run_append_many (P := P) R size hR hsz h1 t o.type B B2 e z bytes ht hi hz hb16 v v2 xs ys hown hown2 hlen hbase
  unfold Oper.wpIn
  refine ⟨?_, ?_⟩
  · simp [Oper.about, ho, resolve, Target.leads, Sem.run_pure]
  · rw [Oper.semAt_plain F _ _ (by rw [ho]; intro c hc'; cases hc')]
    simp [execOp, ho, resolve, invoke, builtin, hs, hx, hrun, Result.andThen]
    exact hK _ _ (h v' w' h2 h3)
end
end Go.Proofs.YtkmpdobojgiegaaGreatDoor

/-
  runner.Step: what is to be done up to now, and was not yet.
-/
namespace Go.Proofs.YtkmpdobojgiegaaGreatDoor
open Go.RowKit
attribute [local go_sem] Oper.semAt_some

def selS (d : Nat) (pre : List DueP) : List Stp := ((pre.map Prod.snd).drop d).filter doesS
/-- between two rounds of Step -/
structure SI (w w1 : World) (d : Nat) (now : Int) (rb : Nat) (pre : List DueP) (W : World) : Prop where
  le : ∀ p ∈ pre, p.1 ≤ now
  out : ∃ ov, Blk W (w.heap.size + 1 + 1) 34 #[ov] ∧ OwnS stpR 3 W w1.heap.size 272 ov (selS d pre)
  ii : Blk W (w.heap.size + 1 + 1 + 1) 3 #[.int .i64 pre.length]
  br : Blk W w.heap.size 125 #[.pointer (some ⟨rb, 0, none⟩)]
  bn : Blk W (w.heap.size + 1) 3 #[.int .i64 now]
  keeps : Keeps (fun _ => False) w W
theorem sel_len (d : Nat) (pre : List DueP) : (selS d pre).length ≤ pre.length := by
  unfold selS
  have h1 := List.length_filter_le doesS ((pre.map Prod.snd).drop d)
  rw [List.length_drop, List.length_map] at h1
  omega
theorem OwnS.one {α : Type} {R : α → List Value} {size : Nat} {x : α} (w : World) (e : TypeId) (h : (R x).length = size) : OwnS R size (w.alloc (.cells (R x).toArray e)) w.heap.size e (.slice (some ⟨w.heap.size, 0, none⟩) 1 1) [x] := by
  refine ⟨by simp [h], .inr ⟨w.heap.size, 1, (R x).toArray, rfl, Nat.le_refl _, heap_alloc_new w _, by simp, by unfold maxLen; omega, by simp [h], ?_⟩⟩
  simp only [List.map_cons, List.map_nil, List.flatten_cons, List.flatten_nil, List.append_nil, List.length_singleton, Nat.one_mul]
  exact List.take_of_length_le (Nat.le_of_eq h)
theorem sel_skip {d : Nat} {pre : List DueP} {x : DueP} (h : ¬ (d ≤ pre.length ∧ doesS x.2 = true)) : selS d (pre ++ [x]) = selS d pre := by
  unfold selS
  rw [List.map_append, List.map_cons, List.map_nil]
  by_cases hd : d ≤ (pre.map Prod.snd).length
  · rw [List.drop_append_of_le_length hd, List.filter_append]
    rw [List.length_map] at hd
    have hx : doesS x.2 = false := by simpa using fun hh => h ⟨hd, hh⟩
    simp [hx]
  · rw [List.drop_eq_nil_of_le (by rw [List.length_append, List.length_singleton]; omega), List.drop_eq_nil_of_le (by omega)]
theorem sel_take {d : Nat} {pre : List DueP} {x : DueP} (h : d ≤ pre.length) (hx : doesS x.2 = true) : selS d (pre ++ [x]) = selS d pre ++ [x.2] := by
  unfold selS
  rw [List.map_append, List.map_cons, List.map_nil, List.drop_append_of_le_length (by rw [List.length_map]; exact h), List.filter_append]
  simp [hx]
/-- behind the round that came too late -/
def SX (w w1 : World) (d : Nat) (now : Int) (rb : Nat) (c : Code) (pre : List DueP) (W : World) : Prop := c = .exit 0 ∧ ∃ pre0 x, pre = pre0 ++ [x] ∧ now < x.1 ∧ SI w w1 d now rb pre0 W
theorem SI.turn {w w1 W W' : World} {d : Nat} {now : Int} {rb : Nat} {pre : List DueP} (h : SI w w1 d now rb pre W) (t : Turn w1.heap.size W W') (hsz : w.heap.size + 4 < w1.heap.size) : SI w w1 d now rb pre W' := by
  have hk : ∀ {i : Nat} {t' : TypeId} {cs : Array Value}, Blk W i t' cs → Blk W' i t' cs := fun hb => hb.keeps t fun hs => hs.2 _ _ _ hb
  obtain ⟨ov, ho1, ho2⟩ := h.out
  exact ⟨h.le, ⟨ov, hk ho1, OwnS.keeps ho2 t (fun i _ _ ⟨cs, hb⟩ hs => hs.2 _ _ _ hb)⟩, hk h.ii, hk h.br, hk h.bn, h.keeps.and_ t (fun i hi hs => by have := hs.1; omega)⟩
/-- the end of Step -/
theorem step_end {w w1 W : World} {d : Nat} {now : Int} {rb : Nat} {pre : List DueP} {l : List Stp} {start : Int} {over : Bool} {v : Value} (hI : SI w w1 d now rb pre W) (hR : RunAt W rb l start d over v) (hrb : rb < w.heap.size) (hv : ∀ i, v.ownBlock = some i → i < w.heap.size) (hsz1 : w.heap.size + 4 < w1.heap.size)
    {D : Nat} (hD : w1.heap.size ≤ D) (hW : W.heap[D]? = some (.deferred (some []))) (X : Nat) (V : Bool) {ov : Value} (ho : OwnS stpR 3 W w1.heap.size 272 ov (selS d pre)) {W2 : World} (hW2 : W2 = (W.setCell ⟨rb, 2, none⟩ (.int .i64 X)).drew) :
    ((W2.setCell ⟨rb, 3, none⟩ (.bool V)).drew).heap[D]? = some (.deferred (some [])) ∧ OwnS stpR 3 (((W2.setCell ⟨rb, 3, none⟩ (.bool V)).drew).putObj D (.deferred none)) w.heap.size 272 ov (selS d pre) ∧
      RunAt (((W2.setCell ⟨rb, 3, none⟩ (.bool V)).drew).putObj D (.deferred none)) rb l start X V v ∧ Keeps (fun i => i = rb) w (((W2.setCell ⟨rb, 3, none⟩ (.bool V)).drew).putObj D (.deferred none)) := by
  have k1 : Keeps (fun i => i = rb) W ((W2.setCell ⟨rb, 3, none⟩ (.bool V)).drew) := by
    rw [hW2]
    exact (((Keeps.refl (fun i => i = rb) W).setCell (p := ⟨rb, 2, none⟩) (fun _ => rfl) _).drew.setCell (p := ⟨rb, 3, none⟩) (fun _ => rfl) _).drew
  have hb1 : Blk ((W2.setCell ⟨rb, 3, none⟩ (.bool V)).drew) rb 294 #[v, .int .i64 start, .int .i64 X, .bool V, .int .i64 (start + sumS l)] := by
    rw [hW2]
    exact ((hR.1.set_ 2 (.int .i64 X)).drew.set_ 3 (.bool V)).drew
  have hd : ((W2.setCell ⟨rb, 3, none⟩ (.bool V)).drew).heap[D]? = some (.deferred (some [])) := (k1.block D (Array.getElem?_eq_some_iff.1 hW).1 (by omega)).trans hW
  generalize (W2.setCell ⟨rb, 3, none⟩ (.bool V)).drew = W3 at k1 hb1 hd ⊢
  have k2 : Keeps (fun i => i = D) W3 (W3.putObj D (.deferred none)) := keeps_put (S := fun i => i = D) _ _ _ rfl
  have k3 : Keeps (fun i => i = rb ∨ i = D) W (W3.putObj D (.deferred none)) := (k1.mono fun _ _ e => .inl e).trans (k2.mono fun _ _ e => .inr e)
  refine ⟨hd, ?_, ⟨hb1.keeps k2 (by omega), ?_⟩, (hI.keeps.none_ : Keeps (fun i => i = rb) w W).and_ k3 (fun i hi e => ?_)⟩
  · refine (OwnS.keeps ho k3 (fun i hi _ hb e => ?_)).moreS (by omega)
    obtain ⟨cs, hb⟩ := hb
    rcases e with e | e
    · omega
    · subst e; unfold Blk at hb; rw [hW] at hb; cases hb
  · have h2 := hR.2
    refine ⟨h2.1, ?_⟩
    rcases h2.2 with h0 | ⟨g, cap, cur, hv0, hg, hh, r⟩
    · exact .inl h0
    · have hlt := hv g (by rw [hv0]; simp [Value.ownBlock])
      refine .inr ⟨g, cap, cur, hv0, hg, (k3.block g (Array.getElem?_eq_some_iff.1 hh).1 ?_).trans hh, r⟩
      rintro (e | e)
      · subst e; have h7 := hR.1; unfold Blk at h7; rw [h7] at hh; simp at hh
      · omega
  · rcases e with e | e
    · exact e
    · omega
/-- behind the loop of Step -/
def StepQ (w w1 : World) (rb : Nat) (l : List Stp) (start : Int) (d : Nat) (now : Int) (a0 : Act) (e : Exit) (a' : Act) (W : World) : Prop :=
  (e = .normal ∨ e = .exit 0) ∧ ∃ D pre, w1.heap.size ≤ D ∧ pre.length ≤ l.length ∧ cntS start now l = pre.length ∧ outS start d now l = selS d pre ∧ SI w w1 d now rb pre W ∧ W.heap[D]? = some (.deferred (some [])) ∧ a' = { a0 with defers := { target := .collected D, args := #[] } :: a0.defers }
theorem inBlock_both {id : Nat} {R : Exit → Act → World → Prop} {e : Exit} {a : Act} {W : World} (he : e = .normal ∨ e = .exit id) (h : R .normal a W) : Exit.inBlock id R e a W := by
  rcases he with rfl | rfl
  · exact h
  · simpa [Exit.inBlock] using h
set_option maxRecDepth 100000 in
set_option maxHeartbeats 4000000 in
theorem rstep_any (w : World) (rb : Nat) (l : List Stp) (start : Int) (d : Nat) (over : Bool) (v : Value) (h : RunAt w rb l start d over v) (hok : StpsOk l start) (hn : l.length ≤ 1048576) (hd : d ≤ 1048576) (now : Int) :
    Calls Tryz.prog 184 #[.pointer (some ⟨rb, 0, none⟩), .int .i64 now] w fun e w' =>
      (∃ ov, e = .returned ov ∧ OwnS stpR 3 w' w.heap.size 272 ov (outS start d now l) ∧ RunAt w' rb l start (max d (cntS start now l)) (over || (decide (max d (cntS start now l) = l.length) && decide (start + sumS l ≤ now))) v) ∧ Keeps (fun i => i = rb) w w' := by
  have hlt := h.lt
  have HH := Lib.hid h
  have HOK := Lib.hid hok
  have hbn : ¬ rb = w.heap.size := by omega
  clear h hok
  refine (callsIn_wide (n := 9)).1 ?_
  refine callsIn_of_wp_marks Tryz.func184 rfl trivial ?_
  simp only [Tryz.ntmps184, List.size_toArray, List.length_cons, List.length_nil, Nat.reduceAdd, Nat.reduceSub, Array.replicate_succ, Array.replicate_zero, List.push_toArray, List.append_toArray, List.nil_append, List.cons_append]
  gi_wp2_with fail
  refine ⟨trivial, ?_⟩
  refine (callsIn_wide.2 (rtimes_any _ _)).mono ?_
  rintro e w1 ⟨rfl, cb, hsz, k1⟩
  simp only [World.size_alloc] at cb hsz ⊢
  have hb0 := ((((Blk.new w 125 #[.pointer (some ⟨rb, 0, none⟩)]).alloc (.cells #[.int .i64 now] 3)).alloc (.cells #[.slice none 0 0] 34)).alloc (.cells #[.int .i64 0] 3)).keeps k1 id
  have hb1 := (((Blk.new (w.alloc (.cells #[.pointer (some ⟨rb, 0, none⟩)] 125)) 3 #[.int .i64 now]).alloc (.cells #[.slice none 0 0] 34)).alloc (.cells #[.int .i64 0] 3)).keeps k1 id
  have hb2 := ((Blk.new ((w.alloc (.cells #[.pointer (some ⟨rb, 0, none⟩)] 125)).alloc (.cells #[.int .i64 now] 3)) 34 #[.slice none 0 0]).alloc (.cells #[.int .i64 0] 3)).keeps k1 id
  have hb3 := (Blk.new (((w.alloc (.cells #[.pointer (some ⟨rb, 0, none⟩)] 125)).alloc (.cells #[.int .i64 now] 3)).alloc (.cells #[.slice none 0 0] 34)) 3 #[.int .i64 0]).keeps k1 id
  simp only [World.size_alloc] at hb1 hb2 hb3
  have kA : Keeps (fun _ => False) w w1 := (((((Keeps.refl _ w).alloc _).alloc _).alloc _).alloc _).trans k1
  have HI0 := Lib.hid (show SI w w1 d now rb [] w1 from ⟨by simp, ⟨_, hb2, by simp [selS]; exact OwnS.none_⟩, hb3, hb0, hb1, kA⟩)
  have hsz1 : w.heap.size + 4 < w1.heap.size := by omega
  have HKA := Lib.hid kA
  have HSZ := Lib.hid hsz
  have HCB := Lib.hid cb
  clear hb0 hb1 hb2 hb3 kA k1 cb hsz
  gi_wp2_with fail
  refine wpIn_mono (range_stop (Q := StepQ w w1 rb l start d now ({ tmps := #[.pointer (some ⟨rb, 0, none⟩), .int .i64 now, .pointer (some ⟨w.heap.size, 0, none⟩), .pointer (some ⟨w.heap.size + 1, 0, none⟩), .slice none 0 0, .pointer (some ⟨w.heap.size + 1 + 1, 0, none⟩), .pointer (some ⟨w.heap.size + 1 + 1 + 1, 0, none⟩), undef, undef, .pointer (some ⟨rb, 0, none⟩), .bool false, .pointer (some ⟨rb, 0, none⟩), .func (.func 258) #[] #[.pointer (some ⟨w.heap.size + 1 + 1 + 1 + 1, 0, none⟩)], undef, undef, undef, undef, undef, undef, undef, undef, undef, undef, undef, undef, undef, undef, undef, undef, undef, undef, undef, undef, undef, undef, undef, undef, undef, undef, undef, undef, undef, undef, undef, undef, undef, undef, undef, undef, undef, undef, undef, undef, undef, undef, undef, undef, undef, undef, undef, undef, undef, undef, undef, undef, undef, undef, undef, undef, undef, undef, undef], defers := [] } : Act)) (w := w1) (n := 7) (gf := 258) (lb := #[.pointer (some ⟨w.heap.size + 1 + 1 + 1 + 1, 0, none⟩)]) rfl (enters_of Tryz.func258 (by kernel_rfl) rfl)
    dueE (fun _ => rfl) (Keeps (fun i => w.heap.size ≤ i ∧ i ≠ w.heap.size + 1 + 1 + 1 + 1)) (fun h k => h.trans k) (fun t => t.mono fun i _ hs => ⟨by have := hs.1; omega, by have := hs.1; omega⟩)
    (fun pre x => ∃ r, itemsS start l = pre ++ x :: r) (SI w w1 d now rb) (SX w w1 d now rb)
    (fun s A B hs t => hs.turn t hsz1) (fun c s A B hs t => ⟨hs.1, by obtain ⟨p0, x, h1, h2, h3⟩ := hs.2; exact ⟨p0, x, h1, h2, h3.turn t hsz1⟩⟩) HI0.out
    (fun x a' W => ∃ bx, Blk W bx 272 #[.int .i64 x.2.kind, .string (str x.2.s), .int .i64 x.2.n] ∧ a' = { tmps := #[.pointer (some ⟨rb, 0, none⟩), .int .i64 now, .pointer (some ⟨w.heap.size, 0, none⟩), .pointer (some ⟨w.heap.size + 1, 0, none⟩), .slice none 0 0, .pointer (some ⟨w.heap.size + 1 + 1, 0, none⟩), .pointer (some ⟨w.heap.size + 1 + 1 + 1, 0, none⟩), .int .i64 x.1, .pointer (some ⟨bx, 0, none⟩), .pointer (some ⟨rb, 0, none⟩), .bool false, .pointer (some ⟨rb, 0, none⟩), .func (.func 258) #[] #[.pointer (some ⟨w.heap.size + 1 + 1 + 1 + 1, 0, none⟩)], .int .i64 x.1, .agg #[.int .i64 x.2.kind, .string (str x.2.s), .int .i64 x.2.n], undef, undef, undef, undef, undef, undef, undef, undef, undef, undef, undef, undef, undef, undef, undef, undef, undef, undef, undef, undef, undef, undef, undef, undef, undef, undef, undef, undef, undef, undef, undef, undef, undef, undef, undef, undef, undef, undef, undef, undef, undef, undef, undef, undef, undef, undef, undef, undef, undef, undef, undef, undef, undef, undef, undef, undef, undef], defers := [] })
    (fun x a' A B hs t => by obtain ⟨bx, h1, h2⟩ := hs; exact ⟨bx, h1.keeps t (fun hs => hs.2 _ _ _ h1), h2⟩) ?assign ?body (fun xs => xs = itemsS start l) (fun pre => ∃ r, itemsS start l = pre ++ r) ?call ?done ?stop) ?rest
  case assign =>
    intro lp x W K hK
    simp only [dueE]
    gi_wp2
    exact hK _ (W.alloc (.cells #[.int .i64 x.2.kind, .string (str x.2.s), .int .i64 x.2.n] 272)) ((Keeps.refl _ _).alloc _) ⟨W.heap.size, Blk.new _ _ _, rfl⟩
  case call =>
    intro lp J Jx W t hJ hJx hY hJ0
    have kk : Keeps (fun _ => False) w1 W := t.mono fun i hi e => by have := e.1; omega
    exact times_in lp 7 W rb l start d over v ((HH.out.keeps (HKA.out.trans kk) id (fun _ _ => id))) HOK.out (by omega) (w.heap.size + 1 + 1 + 1 + 1) ((World.cell?_of_block (w := w1) (kk.block _ (by show w.heap.size + 1 + 1 + 1 + 1 < _; omega) id)).trans HCB.out) (fun i => w.heap.size ≤ i ∧ i ≠ w.heap.size + 1 + 1 + 1 + 1) (by omega) (by simp) (fun i hi hs => by have := hlt.2 i hi; omega) J Jx hJ hY hJ0
  case body =>
    rintro lp pre x a' W hI ⟨r, hr⟩ ⟨bx, hbx, rfl⟩ hW
    have hlen : pre.length < l.length := by have := congrArg List.length hr; rw [items_len, List.length_append, List.length_cons] at this; omega
    have hR := HH.out.keeps hI.keeps id (fun _ _ => id)
    have r2 := hR.1.cell 2
    have q0 := hI.br.cell 0
    have q1 := hI.bn.cell 0
    have q3 := hI.ii.cell 0
    have g3 := hI.ii.frozen 0
    obtain ⟨x0, x1, x2⟩ := hbx.cells3
    simp only [List.getElem?_toArray, List.getElem?_cons_zero, List.getElem?_cons_succ] at r2 q0 q1 q3
    obtain ⟨xa, k0, s0, n0⟩ := x
    simp only at x0 x1 x2 ⊢
    have HI := Lib.hid hI
    have HR := Lib.hid hR
    have HX := Lib.hid hbx
    have HRR := Lib.hid hr
    obtain ⟨m, hm⟩ : ∃ m, m = pre.length := ⟨_, rfl⟩
    have HM := Lib.hid hm
    rw [← hm] at hlen q3
    clear hI hR hbx hr hm
    by_cases hx : now < xa
    · gi_wp2_with fail
      exact ⟨NoRec.refl _ _, rfl, pre, (xa, ⟨k0, s0, n0⟩), rfl, hx, HI.out⟩
    · have hx2 : xa ≤ now := by omega
      have hmix : Tryz.prog.follows .mixedOrders = true := by kernel_rfl
      -- the step is looked at, and is not to be done
      have skip : ∀ W', W' = (W.setCell ⟨w.heap.size + 1 + 1 + 1, 0, none⟩ (.int .i64 ((m : Int) + 1))).drew → ¬ (d ≤ m ∧ k0 ≠ 2) → NoRec w1.heap.size W W' ∧ Keeps (fun i => w.heap.size ≤ i ∧ i ≠ w.heap.size + 1 + 1 + 1 + 1) W W' ∧ SI w w1 d now rb (pre ++ [(xa, ⟨k0, s0, n0⟩)]) W' := by
        rintro W' rfl hno
        have k3 : Keeps (fun i => i = w.heap.size + 1 + 1 + 1) W ((W.setCell ⟨w.heap.size + 1 + 1 + 1, 0, none⟩ (.int .i64 ((m : Int) + 1))).drew) := ((Keeps.refl (fun i => i = w.heap.size + 1 + 1 + 1) W).setCell (p := ⟨w.heap.size + 1 + 1 + 1, 0, none⟩) (fun _ => rfl) _).drew
        obtain ⟨ov, ho1, ho2⟩ := HI.out.out
        refine ⟨NoRec.of_blk k3 (fun i e => by rw [e]; exact .inr ⟨_, _, HI.out.ii⟩), k3.mono (fun i _ e => by omega), ?_⟩
        refine ⟨fun p hp => ?_, ⟨ov, ho1.keeps k3 (by omega), ?_⟩, ?_, HI.out.br.keeps k3 (by omega), HI.out.bn.keeps k3 (by omega), HI.out.keeps.and_ k3 (fun i hi e => by omega)⟩
        · rcases List.mem_append.1 hp with hp | hp
          · exact HI.out.le p hp
          · rw [List.mem_singleton] at hp; subst hp; exact hx2
        · have he : selS d (pre ++ [(xa, ⟨k0, s0, n0⟩)]) = selS d pre := sel_skip (by rw [← HM.out]; simpa [doesS] using hno)
          rw [he]
          exact OwnS.keeps ho2 k3 (fun i hi _ _ e => by omega)
        · have := HI.out.ii.set_ 0 (.int .i64 ((m : Int) + 1))
          rw [List.length_append, List.length_singleton, ← HM.out]
          exact this
      have HSK := Lib.hid skip
      clear skip
      by_cases hdm : d ≤ m
      · by_cases hk : k0 = 2
        · subst hk
          gi_wp2_with fail
          gi_region_o
          all_goals (gi_wp2_with fail)
          all_goals exact HSK.out _ rfl (by omega)
        · have hk2 : (k0 != 2) = true := by simpa using hk
          obtain ⟨ov, ho1, ho2⟩ := HI.out.out
          have q2 := ho1.cell 0
          have g2 := ho1.frozen 0
          simp only [List.getElem?_toArray, List.getElem?_cons_zero] at q2
          have hsl : (selS d pre).length ≤ 1048576 := by
            have h1 := sel_len d pre
            rw [← HM.out] at h1
            omega
          have hov : OwnS stpR 3 (W.alloc (.cells #[.int .i64 k0, .string (str s0), .int .i64 n0] 272)).drew w1.heap.size 272 ov (selS d pre) := OwnS.keeps ho2 ((Keeps.refl (fun _ => False) W).alloc _).drew (fun _ _ _ _ => id)
          have hsrc : OwnS stpR 3 (W.alloc (.cells #[.int .i64 k0, .string (str s0), .int .i64 n0] 272)).drew W.heap.size 272 (.slice (some ⟨W.heap.size, 0, none⟩) 1 1) [⟨k0, s0, n0⟩] := OwnS.keeps (OwnS.one W _ rfl) ((Keeps.refl (fun _ => False) _).drew) (fun _ _ _ _ => id)
          have e7 : ∀ i, ov.ownBlock = some i → w1.heap.size ≤ i := fun i hi => (World.ownsRow.lt hov i hi).1
          have e8 : ∀ i t cs, ov.ownBlock = some i → Blk W i t cs → t = 272 := fun i t cs hi hb => by
            obtain ⟨cs2, hb2⟩ := ho2.ownBlk i hi
            unfold Blk at hb hb2; rw [hb] at hb2; cases hb2; rfl
          have HE7 := Lib.hid e7
          have take : ∀ w7 v7, OwnS stpR 3 w7 w1.heap.size 272 v7 (selS d pre ++ [⟨k0, s0, n0⟩]) → Keeps (fun i => ov.ownBlock = some i) (W.alloc (.cells #[.int .i64 k0, .string (str s0), .int .i64 n0] 272)).drew w7 →
              ∀ W9, W9 = (w7.setCell ⟨w.heap.size + 1 + 1, 0, none⟩ v7).setCell ⟨w.heap.size + 1 + 1 + 1, 0, none⟩ (.int .i64 ((m : Int) + 1)) →
              NoRec w1.heap.size W W9 ∧ Keeps (fun i => w.heap.size ≤ i ∧ i ≠ w.heap.size + 1 + 1 + 1 + 1) W W9 ∧ SI w w1 d now rb (pre ++ [(xa, ⟨k0, s0, n0⟩)]) W9 := by
            rintro w7 v7 O7 k7 W9 rfl
            have kA : Keeps (fun i => ov.ownBlock = some i) W w7 := ((Keeps.refl _ W).alloc _).drew.trans k7
            have kB : Keeps (fun i => i = w.heap.size + 1 + 1 ∨ i = w.heap.size + 1 + 1 + 1) w7 ((w7.setCell ⟨w.heap.size + 1 + 1, 0, none⟩ v7).setCell ⟨w.heap.size + 1 + 1 + 1, 0, none⟩ (.int .i64 ((m : Int) + 1))) :=
              ((Keeps.refl (fun i => i = w.heap.size + 1 + 1 ∨ i = w.heap.size + 1 + 1 + 1) w7).setCell (p := ⟨w.heap.size + 1 + 1, 0, none⟩) (fun _ => .inl rfl) _).setCell (p := ⟨w.heap.size + 1 + 1 + 1, 0, none⟩) (fun _ => .inr rfl) _
            have kC : Keeps (fun i => ov.ownBlock = some i ∨ i = w.heap.size + 1 + 1 ∨ i = w.heap.size + 1 + 1 + 1) W ((w7.setCell ⟨w.heap.size + 1 + 1, 0, none⟩ v7).setCell ⟨w.heap.size + 1 + 1 + 1, 0, none⟩ (.int .i64 ((m : Int) + 1))) := (kA.mono fun _ _ e => .inl e).trans (kB.mono fun _ _ e => .inr e)
            have hii := HI.out.ii.keeps kA (fun e => by have := HE7.out _ e; omega)
            have hoo := ho1.keeps kA (fun e => by have := HE7.out _ e; omega)
            refine ⟨NoRec.of_blk kC (fun i e => ?_), kC.mono (fun i _ e => ?_), fun p hp => ?_, ⟨v7, ?_, ?_⟩, ?_, HI.out.br.keeps kC ?_, HI.out.bn.keeps kC ?_, HI.out.keeps.and_ kC (fun i hi e => ?_)⟩
            · rcases e with e | e | e
              · obtain ⟨cs2, hb2⟩ := ho2.ownBlk i e; exact .inr ⟨_, _, hb2⟩
              · rw [e]; exact .inr ⟨_, _, ho1⟩
              · rw [e]; exact .inr ⟨_, _, HI.out.ii⟩
            · rcases e with e | e | e
              · have := HE7.out _ e; omega
              · omega
              · omega
            · rcases List.mem_append.1 hp with hp | hp
              · exact HI.out.le p hp
              · rw [List.mem_singleton] at hp; subst hp; exact hx2
            · exact (hoo.set_ 0 v7).far (p := ⟨w.heap.size + 1 + 1 + 1, 0, none⟩) (by simp) _
            · have he : selS d (pre ++ [(xa, ⟨k0, s0, n0⟩)]) = selS d pre ++ [⟨k0, s0, n0⟩] := sel_take (x := (xa, ⟨k0, s0, n0⟩)) (by rw [← HM.out]; exact hdm) (by simpa [doesS] using hk)
              rw [he]
              exact OwnS.keeps O7 kB (fun i hi _ _ e => by omega)
            · have := (hii.far (p := ⟨w.heap.size + 1 + 1, 0, none⟩) (by simp) v7).set_ 0 (.int .i64 ((m : Int) + 1))
              rw [List.length_append, List.length_singleton, ← HM.out]
              exact this
            · rintro (e | e | e)
              · have := HE7.out _ e; omega
              · omega
              · omega
            · rintro (e | e | e)
              · have := HE7.out _ e; omega
              · omega
              · omega
            · rcases e with e | e | e
              · have := HE7.out _ e; omega
              · omega
              · omega
          have HTK := Lib.hid take
          have HOV := Lib.hid hov
          have HSRC := Lib.hid hsrc
          have HO1 := Lib.hid ho1
          clear hov hsrc ho1 ho2 take e7 e8
          gi_wp2_with fail
          gi_region_o
          all_goals (gi_wp2_with (with_reducible show wpListIn _ _ _ _ _ (⟨some 32, _, _, _, _, _⟩ :: _) _ _; go_must (refine wpListIn_append_many stpR 3 stpR_len (by decide) stpR_ones rfl (.tmp 29) (.tmp 31) 34 rfl w1.heap.size W.heap.size 272 (.agg #[.int .i64 0, .string ⟨#[]⟩, .int .i64 0]) 32 Tryz.underlying34 (by kernel_rfl) rfl (by omega) ov (.slice (some ⟨W.heap.size, 0, none⟩) 1 1) (selS d pre) [⟨k0, s0, n0⟩] rfl HOV.out rfl HSRC.out (by simp; omega) (by simp; omega) ?_; intro v7 w7 O7 k7; obtain ⟨a7, c7, rfl⟩ := O7.sl; obtain ⟨N7, hN7⟩ : ∃ N7, N7 = (selS d pre ++ [(⟨k0, s0, n0⟩ : Stp)]).length := ⟨_, rfl⟩; rw [← hN7] at O7 ⊢; clear hN7; have hb2 := Blk.keeps (Blk.drew (HO1.out.alloc (.cells #[.int .i64 k0, .string (str s0), .int .i64 n0] 272))) k7 (fun e => by have := HE7.out _ e; omega); have hb3 := Blk.keeps (Blk.drew (HI.out.ii.alloc (.cells #[.int .i64 k0, .string (str s0), .int .i64 n0] 272))) k7 (fun e => by have := HE7.out _ e; omega); have b2 := hb2.cell 0; have d2 := hb2.frozen 0; have b3 := hb3.cell 0; have d3 := hb3.frozen 0; rw [← HM.out] at b3; simp only [List.getElem?_toArray, List.getElem?_cons_zero] at b2 b3; have HO7 := Lib.hid O7; have HK7 := Lib.hid k7; clear O7 k7 hb2 hb3)))
          all_goals exact HTK.out _ _ HO7.out HK7.out _ rfl
      · gi_wp2_with fail
        gi_region_o
        all_goals (gi_wp2_with fail)
        all_goals exact HSK.out _ rfl (by omega)
  case done =>
    rintro D xs W hD rfl hI hW
    exact ⟨.inl rfl, D, _, hD, by rw [items_len]; exact Nat.le_refl _, by rw [cnt_items, take_now (rest := []) (by simp) hI.le (.inl rfl)], by rw [out_items, take_now (rest := []) (by simp) hI.le (.inl rfl)]; rfl, hI, hW, rfl⟩
  case stop =>
    rintro D cc pre W hD ⟨r, hr⟩ ⟨rfl, pre0, x, rfl, hx, hI⟩ hW
    gi_wp2
    exact ⟨.inr rfl, D, pre0, hD, by have := congrArg List.length hr; rw [items_len, List.length_append, List.length_append] at this; omega, by rw [cnt_items, take_now (rest := x :: r) (by rw [hr, List.append_assoc]; rfl) hI.le (.inr ⟨x, r, rfl, hx⟩)], by rw [out_items, take_now (rest := x :: r) (by rw [hr, List.append_assoc]; rfl) hI.le (.inr ⟨x, r, rfl, hx⟩)]; rfl, hI, hW, rfl⟩
  case rest =>
    rintro e a' W ⟨he, D, pre, hD, hpl, hcn, hou, hI, hW, rfl⟩
    refine inBlock_both he ?_
    clear he
    have hR := HH.out.keeps hI.keeps id (fun _ _ => id)
    have r2 := hR.1.cell 2
    have q0 := hI.br.cell 0
    have q3 := hI.ii.cell 0
    have f2 := hR.1.frozen 2
    simp only [List.getElem?_toArray, List.getElem?_cons_zero, List.getElem?_cons_succ] at r2 q0 q3
    obtain ⟨c, hc⟩ : ∃ c, c = pre.length := ⟨_, rfl⟩
    rw [← hc] at q3
    have hcl : c ≤ l.length := by rw [hc]; exact hpl
    have hcnt : cntS start now l = c := by rw [hc]; exact hcn
    have hout : outS start d now l = selS d pre := hou
    obtain ⟨M, hM⟩ : ∃ M, M = max d c := ⟨_, rfl⟩
    have hMl : M ≤ 1048576 := by omega
    have HQC := Lib.hid hcnt
    have HQO := Lib.hid hout
    have HI := Lib.hid hI
    have HR := Lib.hid hR
    have HW := Lib.hid hW
    have hsm := sumS_take (fun x hx => rightS_n (HOK.out.right x hx)) 0
    have hlo := HOK.out.lo
    have hhi := HOK.out.hi
    unfold tickMax at hhi
    obtain ⟨E, hE⟩ : ∃ E, E = start + sumS l := ⟨_, rfl⟩
    obtain ⟨n, hnn⟩ : ∃ n, n = l.length := ⟨_, rfl⟩
    rw [← hE] at hhi
    rw [← hnn] at hn hcl
    have HE := Lib.hid hE
    have HN := Lib.hid hnn
    have HM := Lib.hid hM
    have hov := hI.out
    have HOV := Lib.hid hov
    clear hI hR hW hc hcnt hout hcn hou hpl hsm hlo hE hnn hov
    rcases (show (d < c ∧ M = c) ∨ (c ≤ d ∧ M = d) from by have := HM.out; omega) with ⟨hdc, hmc⟩ | ⟨hdc, hmc⟩
    · have HMC := Lib.hid hmc
      clear hmc
      gi_wp2_with fail
      refine wpIn_wide.2 ?_
      go_still_tail 9, (by kernel_rfl)
      go_wp2_with fail
      try simp only [show (max (d : Int) (c : Int)) = (c : Int) from by omega]
      obtain ⟨W2, hW2⟩ : ∃ W2, W2 = (W.setCell ⟨rb, 2, none⟩ (.int .i64 c)).drew := ⟨_, rfl⟩
      try simp only [drew_mk]
      rw [← hW2]
      have k2 : Keeps (fun i => i = rb) W W2 := by rw [hW2]; exact ((Keeps.refl (fun i => i = rb) W).setCell (p := ⟨rb, 2, none⟩) (fun _ => rfl) _).drew
      have hR2 : Blk W2 rb 294 #[v, .int .i64 start, .int .i64 c, .bool over, .int .i64 (start + sumS l)] := by rw [hW2]; exact (HR.out.1.set_ 2 (.int .i64 c)).drew
      have s0 := hR2.cell 0
      have s2 := hR2.cell 2
      have s3 := hR2.cell 3
      have s4 := hR2.cell 4
      have g3 := hR2.frozen 3
      have p0 := (HI.out.br.keeps k2 (by omega)).cell 0
      have p1 := (HI.out.bn.keeps k2 (by omega)).cell 0
      obtain ⟨av, cv, hav⟩ := HR.out.2.sl
      rw [hav] at s0
      rw [← HE.out] at s4
      rw [← HN.out] at s0
      simp only [List.getElem?_toArray, List.getElem?_cons_zero, List.getElem?_cons_succ] at s0 s2 s3 s4 p0 p1
      have HR2 := Lib.hid hR2
      have HK2 := Lib.hid k2
      have p2 := HOV.out
      obtain ⟨ov, ho1, ho2⟩ := p2
      have p3 := (ho1.keeps k2 (by omega)).cell 0
      simp only [List.getElem?_toArray, List.getElem?_cons_zero] at p3
      have HW2 := Lib.hid hW2
      have HO2 := Lib.hid ho2
      clear hav hR2 k2 r2 q0 q3 f2 hW2 hdc ho1 ho2
      refine wpIn_wide.2 ?_
      cases over with
      | true =>
        go_wp2_with fail
        (refine wp_region_still_tail 27 (by kernel_rfl) (by kernel_rfl) ?_; simp only [List.take_succ_cons, List.take_zero, List.drop_succ_cons, List.drop_zero]; (iterate 6 ((with_reducible refine wpStill_step (fun K hK => ?_)); refine ite_yes rfl ?_; go_simp; (with_reducible refine hK _ ?_); clear hK K)); (iterate 18 ((with_reducible refine wpStill_step (fun K hK => ?_)); refine ite_no rfl ?_; go_simp; (with_reducible refine hK _ ?_); clear hK K)); (iterate 3 ((with_reducible refine wpStill_step (fun K hK => ?_)); refine ite_yes rfl ?_; go_simp; (with_reducible refine hK _ ?_); clear hK K)); refine wpStill_nil ?_)
        go_wp2_with fail
        obtain ⟨E1, E2, E3, E4⟩ := step_end HI.out HR.out hlt.1 hlt.2 hsz1 hD HW.out c true HO2.out HW2.out
        refine ⟨by simp, .inl ⟨_, _, rfl, run_takeDeferred E1, ?_⟩⟩
        refine ⟨_, results_tmp rfl _ _ _, ?_⟩
        have e1 : max d (cntS start now l) = c := by rw [HQC.out, ← HM.out, HMC.out]
        exact ⟨⟨ov, rfl, by rw [HQO.out]; exact E2, by rw [e1, ← HN.out, ← HE.out, show (true || (decide (c = n) && decide (E ≤ now))) = true by simp ]; exact E3⟩, E4⟩
      | false =>
        by_cases hmn : c = n
        · have hmj : (c == n) = true := by simpa using hmn
          go_wp2_with fail
          (refine wp_region_still_tail 27 (by kernel_rfl) (by kernel_rfl) ?_; simp only [List.take_succ_cons, List.take_zero, List.drop_succ_cons, List.drop_zero]; (iterate 27 ((with_reducible refine wpStill_step (fun K hK => ?_)); refine ite_yes rfl ?_; go_simp; (with_reducible refine hK _ ?_); clear hK K)); refine wpStill_nil ?_)
          go_wp2_with fail
          obtain ⟨E1, E2, E3, E4⟩ := step_end HI.out HR.out hlt.1 hlt.2 hsz1 hD HW.out c (decide (E ≤ now)) HO2.out HW2.out
          refine ⟨by simp, .inl ⟨_, _, rfl, run_takeDeferred E1, ?_⟩⟩
          refine ⟨_, results_tmp rfl _ _ _, ?_⟩
          have e1 : max d (cntS start now l) = c := by rw [HQC.out, ← HM.out, HMC.out]
          exact ⟨⟨ov, rfl, by rw [HQO.out]; exact E2, by rw [e1, ← HN.out, ← HE.out, show (false || (decide (c = n) && decide (E ≤ now))) = (decide (E ≤ now)) by simp [hmn]]; exact E3⟩, E4⟩
        · have hmk : ((c : Int) == (n : Int)) = false := by rw [beq_eq_false_iff_ne]; omega
          go_wp2_with fail
          (refine wp_region_still_tail 27 (by kernel_rfl) (by kernel_rfl) ?_; simp only [List.take_succ_cons, List.take_zero, List.drop_succ_cons, List.drop_zero]; (iterate 17 ((with_reducible refine wpStill_step (fun K hK => ?_)); refine ite_yes rfl ?_; go_simp; (with_reducible refine hK _ ?_); clear hK K)); (iterate 6 ((with_reducible refine wpStill_step (fun K hK => ?_)); refine ite_no rfl ?_; go_simp; (with_reducible refine hK _ ?_); clear hK K)); (iterate 4 ((with_reducible refine wpStill_step (fun K hK => ?_)); refine ite_yes rfl ?_; go_simp; (with_reducible refine hK _ ?_); clear hK K)); refine wpStill_nil ?_)
          go_wp2_with fail
          obtain ⟨E1, E2, E3, E4⟩ := step_end HI.out HR.out hlt.1 hlt.2 hsz1 hD HW.out c false HO2.out HW2.out
          refine ⟨by simp, .inl ⟨_, _, rfl, run_takeDeferred E1, ?_⟩⟩
          refine ⟨_, results_tmp rfl _ _ _, ?_⟩
          have e1 : max d (cntS start now l) = c := by rw [HQC.out, ← HM.out, HMC.out]
          exact ⟨⟨ov, rfl, by rw [HQO.out]; exact E2, by rw [e1, ← HN.out, ← HE.out, show (false || (decide (c = n) && decide (E ≤ now))) = false by simp [hmn]]; exact E3⟩, E4⟩
    · have HMC := Lib.hid hmc
      clear hmc
      gi_wp2_with fail
      refine wpIn_wide.2 ?_
      go_still_tail 9, (by kernel_rfl)
      go_wp2_with fail
      try simp only [show (max (d : Int) (c : Int)) = (d : Int) from by omega]
      obtain ⟨W2, hW2⟩ : ∃ W2, W2 = (W.setCell ⟨rb, 2, none⟩ (.int .i64 d)).drew := ⟨_, rfl⟩
      try simp only [drew_mk]
      rw [← hW2]
      have k2 : Keeps (fun i => i = rb) W W2 := by rw [hW2]; exact ((Keeps.refl (fun i => i = rb) W).setCell (p := ⟨rb, 2, none⟩) (fun _ => rfl) _).drew
      have hR2 : Blk W2 rb 294 #[v, .int .i64 start, .int .i64 d, .bool over, .int .i64 (start + sumS l)] := by rw [hW2]; exact (HR.out.1.set_ 2 (.int .i64 d)).drew
      have s0 := hR2.cell 0
      have s2 := hR2.cell 2
      have s3 := hR2.cell 3
      have s4 := hR2.cell 4
      have g3 := hR2.frozen 3
      have p0 := (HI.out.br.keeps k2 (by omega)).cell 0
      have p1 := (HI.out.bn.keeps k2 (by omega)).cell 0
      obtain ⟨av, cv, hav⟩ := HR.out.2.sl
      rw [hav] at s0
      rw [← HE.out] at s4
      rw [← HN.out] at s0
      simp only [List.getElem?_toArray, List.getElem?_cons_zero, List.getElem?_cons_succ] at s0 s2 s3 s4 p0 p1
      have HR2 := Lib.hid hR2
      have HK2 := Lib.hid k2
      have p2 := HOV.out
      obtain ⟨ov, ho1, ho2⟩ := p2
      have p3 := (ho1.keeps k2 (by omega)).cell 0
      simp only [List.getElem?_toArray, List.getElem?_cons_zero] at p3
      have HW2 := Lib.hid hW2
      have HO2 := Lib.hid ho2
      clear hav hR2 k2 r2 q0 q3 f2 hW2 hdc ho1 ho2
      refine wpIn_wide.2 ?_
      cases over with
      | true =>
        go_wp2_with fail
        (refine wp_region_still_tail 27 (by kernel_rfl) (by kernel_rfl) ?_; simp only [List.take_succ_cons, List.take_zero, List.drop_succ_cons, List.drop_zero]; (iterate 6 ((with_reducible refine wpStill_step (fun K hK => ?_)); refine ite_yes rfl ?_; go_simp; (with_reducible refine hK _ ?_); clear hK K)); (iterate 18 ((with_reducible refine wpStill_step (fun K hK => ?_)); refine ite_no rfl ?_; go_simp; (with_reducible refine hK _ ?_); clear hK K)); (iterate 3 ((with_reducible refine wpStill_step (fun K hK => ?_)); refine ite_yes rfl ?_; go_simp; (with_reducible refine hK _ ?_); clear hK K)); refine wpStill_nil ?_)
        go_wp2_with fail
        obtain ⟨E1, E2, E3, E4⟩ := step_end HI.out HR.out hlt.1 hlt.2 hsz1 hD HW.out d true HO2.out HW2.out
        refine ⟨by simp, .inl ⟨_, _, rfl, run_takeDeferred E1, ?_⟩⟩
        refine ⟨_, results_tmp rfl _ _ _, ?_⟩
        have e1 : max d (cntS start now l) = d := by rw [HQC.out, ← HM.out, HMC.out]
        exact ⟨⟨ov, rfl, by rw [HQO.out]; exact E2, by rw [e1, ← HN.out, ← HE.out, show (true || (decide (d = n) && decide (E ≤ now))) = true by simp ]; exact E3⟩, E4⟩
      | false =>
        by_cases hmn : d = n
        · have hmj : (d == n) = true := by simpa using hmn
          go_wp2_with fail
          (refine wp_region_still_tail 27 (by kernel_rfl) (by kernel_rfl) ?_; simp only [List.take_succ_cons, List.take_zero, List.drop_succ_cons, List.drop_zero]; (iterate 27 ((with_reducible refine wpStill_step (fun K hK => ?_)); refine ite_yes rfl ?_; go_simp; (with_reducible refine hK _ ?_); clear hK K)); refine wpStill_nil ?_)
          go_wp2_with fail
          obtain ⟨E1, E2, E3, E4⟩ := step_end HI.out HR.out hlt.1 hlt.2 hsz1 hD HW.out d (decide (E ≤ now)) HO2.out HW2.out
          refine ⟨by simp, .inl ⟨_, _, rfl, run_takeDeferred E1, ?_⟩⟩
          refine ⟨_, results_tmp rfl _ _ _, ?_⟩
          have e1 : max d (cntS start now l) = d := by rw [HQC.out, ← HM.out, HMC.out]
          exact ⟨⟨ov, rfl, by rw [HQO.out]; exact E2, by rw [e1, ← HN.out, ← HE.out, show (false || (decide (d = n) && decide (E ≤ now))) = (decide (E ≤ now)) by simp [hmn]]; exact E3⟩, E4⟩
        · have hmk : ((d : Int) == (n : Int)) = false := by rw [beq_eq_false_iff_ne]; omega
          go_wp2_with fail
          (refine wp_region_still_tail 27 (by kernel_rfl) (by kernel_rfl) ?_; simp only [List.take_succ_cons, List.take_zero, List.drop_succ_cons, List.drop_zero]; (iterate 17 ((with_reducible refine wpStill_step (fun K hK => ?_)); refine ite_yes rfl ?_; go_simp; (with_reducible refine hK _ ?_); clear hK K)); (iterate 6 ((with_reducible refine wpStill_step (fun K hK => ?_)); refine ite_no rfl ?_; go_simp; (with_reducible refine hK _ ?_); clear hK K)); (iterate 4 ((with_reducible refine wpStill_step (fun K hK => ?_)); refine ite_yes rfl ?_; go_simp; (with_reducible refine hK _ ?_); clear hK K)); refine wpStill_nil ?_)
          go_wp2_with fail
          obtain ⟨E1, E2, E3, E4⟩ := step_end HI.out HR.out hlt.1 hlt.2 hsz1 hD HW.out d false HO2.out HW2.out
          refine ⟨by simp, .inl ⟨_, _, rfl, run_takeDeferred E1, ?_⟩⟩
          refine ⟨_, results_tmp rfl _ _ _, ?_⟩
          have e1 : max d (cntS start now l) = d := by rw [HQC.out, ← HM.out, HMC.out]
          exact ⟨⟨ov, rfl, by rw [HQO.out]; exact E2, by rw [e1, ← HN.out, ← HE.out, show (false || (decide (d = n) && decide (E ≤ now))) = false by simp [hmn]]; exact E3⟩, E4⟩
end Go.Proofs.YtkmpdobojgiegaaGreatDoor

/-
  runner.Next: when there is something to do next.
-/
namespace Go.Proofs.YtkmpdobojgiegaaGreatDoor
open Go.RowKit
attribute [local go_sem] Oper.semAt_some

/-- no step from the d-th on does anything -/
def noneS (d : Nat) (pre : List DueP) : Prop := ∀ k p, pre[k]? = some p → ¬ (d ≤ k ∧ doesS p.2 = true)
theorem noneS.snoc {d : Nat} {pre : List DueP} {x : DueP} (h : noneS d pre) (hx : ¬ (d ≤ pre.length ∧ doesS x.2 = true)) : noneS d (pre ++ [x]) := by
  intro k p hk
  rcases Nat.lt_or_ge k pre.length with hlt | hge
  · rw [List.getElem?_append_left hlt] at hk; exact h k p hk
  · rw [List.getElem?_append_right hge] at hk
    have h0 : k - pre.length = 0 := by
      rcases Nat.eq_zero_or_pos (k - pre.length) with h0 | h0
      · exact h0
      · rw [List.getElem?_eq_none (by simp; omega)] at hk; cases hk
    rw [h0] at hk
    simp at hk
    subst hk
    obtain rfl : k = pre.length := by omega
    exact hx
/-- between two rounds of Next -/
structure NI (w : World) (d : Nat) (rb : Nat) (pre : List DueP) (W : World) : Prop where
  no : noneS d pre
  ii : Blk W (w.heap.size + 1 + 1 + 1) 3 #[.int .i64 pre.length]
  br : Blk W w.heap.size 125 #[.pointer (some ⟨rb, 0, none⟩)]
  b1 : Blk W (w.heap.size + 1) 3 #[.int .i64 0]
  b2 : Blk W (w.heap.size + 1 + 1) 4 #[.bool false]
  keeps : Keeps (fun _ => False) w W
def NX (w : World) (d : Nat) (c : Code) (pre : List DueP) (W : World) : Prop :=
  c = .ret ∧ ∃ pre0 x, pre = pre0 ++ [x] ∧ noneS d pre0 ∧ d ≤ pre0.length ∧ doesS x.2 = true ∧ Blk W (w.heap.size + 1) 3 #[.int .i64 x.1] ∧ Blk W (w.heap.size + 1 + 1) 4 #[.bool true] ∧ Keeps (fun _ => False) w W
theorem Blk.turn_ {W W' : World} {B i : Nat} {t' : TypeId} {cs : Array Value} (hb : Blk W i t' cs) (t : Turn B W W') : Blk W' i t' cs := hb.keeps t fun hs => hs.2 _ _ _ hb
theorem NI.turn {w w1 W W' : World} {d : Nat} {rb : Nat} {pre : List DueP} (h : NI w d rb pre W) (t : Turn w1.heap.size W W') (hsz : w.heap.size + 4 < w1.heap.size) : NI w d rb pre W' :=
  ⟨h.no, h.ii.turn_ t, h.br.turn_ t, h.b1.turn_ t, h.b2.turn_ t, h.keeps.and_ t (fun i hi hs => by have := hs.1; omega)⟩
theorem NX.turn {w w1 W W' : World} {d : Nat} {c : Code} {pre : List DueP} (h : NX w d c pre W) (t : Turn w1.heap.size W W') (hsz : w.heap.size + 4 < w1.heap.size) : NX w d c pre W' := by
  obtain ⟨hc, p0, x, h1, h2, h3, h4, h5, h6, h7⟩ := h
  exact ⟨hc, p0, x, h1, h2, h3, h4, h5.turn_ t, h6.turn_ t, h7.and_ t (fun i hi hs => by have := hs.1; omega)⟩
end Go.Proofs.YtkmpdobojgiegaaGreatDoor

/-
  A line in memory, with its footprint; made, State, open.
-/
namespace Go.Proofs.YtkmpdobojgiegaaGreatDoor
open Go.RowKit

/-- what a line does now: a runner, or none -/
def RunPart (w : World) (F : Nat → Prop) (nv : Value) (m : Ln) : Prop :=
  ((m.st = 3 ∨ m.st = 5) → ∃ rb v, nv = .pointer (some ⟨rb, 0, none⟩) ∧ RunAt w rb m.l m.start (cntS m.start m.done m.l) false v ∧ F rb ∧ ∀ i, v.ownBlock = some i → F i) ∧ (¬ (m.st = 3 ∨ m.st = 5) → nv = .pointer none)
def lineC (wb : Nat) (st : Int) (fv nv : Value) (at_ : Int) (hv : Value) : Array Value := #[.pointer (some ⟨wb, 0, none⟩), .int .i64 st, fv, nv, .int .i64 at_, hv, .func (.func 110) #[] #[]]
/-- a line at lb, made of the blocks of F -/
structure LineV (w : World) (F : Nat → Prop) (lb : Nat) (m : Ln) (wb : Nat) (fv nv hv : Value) : Prop where
  top : Blk w lb 129 (lineC wb m.st fv nv m.at_ hv)
  wait : WaitB w wb m.base m.cap m.jit m.n
  first : OwnS stpR 3 w 0 272 fv m.first
  ffirst : ∀ i, fv.ownBlock = some i → F i
  held : OwnQ w 5 hv (u8Vs m.held)
  fheld : ∀ i, rowB hv = some i → F i
  run : RunPart w F nv m
  fl : F lb
  fw : F wb
  inn : In F w
def LineAt (w : World) (F : Nat → Prop) (lb : Nat) (m : Ln) : Prop := ∃ wb fv nv hv, LineV w F lb m wb fv nv hv
theorem OwnS.far {α : Type} {R : α → List Value} {size : Nat} {w w' : World} {B : Nat} {e : TypeId} {v : Value} {xs : List α} {S : Nat → Prop} (h : OwnS R size w B e v xs) (k : Keeps S w w') (hS : ∀ i, v.ownBlock = some i → ¬ S i) : OwnS R size w' B e v xs := by
  refine ⟨h.1, ?_⟩
  rcases h.2 with h2 | ⟨g, cap, cur, hv, hg, hh, r⟩
  · exact .inl h2
  · exact .inr ⟨g, cap, cur, hv, hg, (k.block g (Array.getElem?_eq_some_iff.1 hh).1 (hS g (by rw [hv]; simp [Value.ownBlock]))).trans hh, r⟩
section
variable {w w' : World} {F G S : Nat → Prop} {lb : Nat} {m : Ln} {wb : Nat} {fv nv hv : Value}
theorem RunPart.keeps (h : RunPart w F nv m) (k : Keeps S w w') (hS : ∀ i, F i → ¬ S i) : RunPart w' F nv m := by
  refine ⟨fun hs => ?_, h.2⟩
  obtain ⟨rb, v, h1, h2, h3, h4⟩ := h.1 hs
  exact ⟨rb, v, h1, h2.keeps k (hS _ h3) (fun i hi => hS _ (h4 i hi)), h3, h4⟩
theorem LineV.keeps (h : LineV w F lb m wb fv nv hv) (k : Keeps S w w') (hS : ∀ i, F i → ¬ S i) : LineV w' F lb m wb fv nv hv :=
  ⟨h.top.keeps k (hS _ h.fl), Blk.keeps h.wait k (hS _ h.fw), h.first.far k (fun i hi => hS _ (h.ffirst i hi)), h.ffirst, h.held.keeps k (fun i hi _ => hS _ (h.fheld i hi)), h.fheld, h.run.keeps k hS, h.fl, h.fw, h.inn.later k⟩
theorem LineAt.keeps (h : LineAt w F lb m) (k : Keeps S w w') (hS : ∀ i, F i → ¬ S i) : LineAt w' F lb m := by
  obtain ⟨wb, fv, nv, hv, h⟩ := h
  exact ⟨wb, fv, nv, hv, h.keeps k hS⟩
theorem LineV.mono (h : LineV w F lb m wb fv nv hv) (hG : ∀ i, F i → G i) (hI : In G w) : LineV w G lb m wb fv nv hv :=
  ⟨h.top, h.wait, h.first, fun i hi => hG _ (h.ffirst i hi), h.held, fun i hi => hG _ (h.fheld i hi), ⟨fun hs => by obtain ⟨rb, v, h1, h2, h3, h4⟩ := h.run.1 hs; exact ⟨rb, v, h1, h2, hG _ h3, fun i hi => hG _ (h4 i hi)⟩, h.run.2⟩, hG _ h.fl, hG _ h.fw, hI⟩
theorem LineAt.mono (h : LineAt w F lb m) (hG : ∀ i, F i → G i) (hI : In G w) : LineAt w G lb m := by
  obtain ⟨wb, fv, nv, hv, h⟩ := h
  exact ⟨wb, fv, nv, hv, h.mono hG hI⟩
theorem LineAt.inn (h : LineAt w F lb m) : In F w := by obtain ⟨wb, fv, nv, hv, h⟩ := h; exact h.inn
theorem LineV.cells (h : LineV w F lb m wb fv nv hv) : (w.cell? ⟨lb, 0, none⟩ = some (.pointer (some ⟨wb, 0, none⟩)) ∧ w.cell? ⟨lb, 1, none⟩ = some (.int .i64 m.st) ∧ w.cell? ⟨lb, 2, none⟩ = some fv ∧ w.cell? ⟨lb, 3, none⟩ = some nv ∧ w.cell? ⟨lb, 4, none⟩ = some (.int .i64 m.at_) ∧ w.cell? ⟨lb, 5, none⟩ = some hv ∧ w.cell? ⟨lb, 6, none⟩ = some (.func (.func 110) #[] #[])) ∧
    w.frozen? ⟨lb, 1, none⟩ = false ∧ w.frozen? ⟨lb, 3, none⟩ = false ∧ w.frozen? ⟨lb, 4, none⟩ = false ∧ w.frozen? ⟨lb, 5, none⟩ = false :=
  ⟨⟨h.top.cell 0, h.top.cell 1, h.top.cell 2, h.top.cell 3, h.top.cell 4, h.top.cell 5, h.top.cell 6⟩, h.top.frozen 1, h.top.frozen 3, h.top.frozen 4, h.top.frozen 5⟩
set_option maxRecDepth 100000 in
theorem lmade (h : LineAt w F lb m) : Calls Tryz.prog 55 #[.pointer (some ⟨lb, 0, none⟩)] w fun e w' => e = .returned (.bool true) ∧ w' = w := by
  obtain ⟨wb, fv, nv, hv, h⟩ := h
  obtain ⟨⟨c0, c1, c2, c3, c4, c5, c6⟩, -⟩ := h.cells
  clear h
  have hne : ∀ w, (binOp .neq 127 (.func (.func 110) #[] #[]) .nilFunc).run Tryz.prog w = .ok (.bool true) w := fun _ => by kernel_rfl
  go_enter Tryz.func55, Tryz.ntmps55
  go_wp2
  go_ret
  exact ⟨rfl, rfl⟩
set_option maxRecDepth 100000 in
theorem lstate (h : LineAt w F lb m) : Calls Tryz.prog 26 #[.pointer (some ⟨lb, 0, none⟩)] w fun e w' => e = .returned (.int .i64 m.st) ∧ w' = w := by
  have HM := Lib.hid (lmade h)
  obtain ⟨wb, fv, nv, hv, h⟩ := h
  obtain ⟨⟨c0, c1, c2, c3, c4, c5, c6⟩, -⟩ := h.cells
  clear h
  go_enter Tryz.func26, Tryz.ntmps26
  go_wp2_with (go_at_call 55; refine HM.out.mono ?_; rintro e w2 ⟨rfl, rfl⟩)
  go_ret
  exact ⟨rfl, rfl⟩
/-- the line's own block is written -/
theorem LineV.upd (h : LineV w F lb m wb fv nv hv) (k : Keeps (fun i => i = lb) w w') {m' : Ln} {nv' hv' : Value} (ht : Blk w' lb 129 (lineC wb m'.st fv nv' m'.at_ hv')) (hrule : m'.base = m.base ∧ m'.cap = m.cap ∧ m'.jit = m.jit ∧ m'.n = m.n ∧ m'.first = m.first)
    (hh : OwnQ w' 5 hv' (u8Vs m'.held)) (hfh : ∀ i, rowB hv' = some i → F i) (hr : RunPart w' F nv' m') : LineV w' F lb m' wb fv nv' hv' := by
  obtain ⟨e1, e2, e3, e4, e5⟩ := hrule
  refine ⟨ht, ?_, ?_, h.ffirst, hh, hfh, hr, h.fl, h.fw, h.inn.later k⟩
  · rw [e1, e2, e3, e4]; exact Blk.keeps h.wait k (fun e => Blk.ne_ h.wait h.top (by decide) e)
  · rw [e5]; exact h.first.far k (fun i hi e => by obtain ⟨cs, hb⟩ := h.first.ownBlk i hi; exact Blk.ne_ hb h.top (by decide) e)
theorem LineV.heldK (h : LineV w F lb m wb fv nv hv) (k : Keeps (fun i => i = lb) w w') : OwnQ w' 5 hv (u8Vs m.held) :=
  h.held.keeps k (fun i _ hb e => by obtain ⟨cs, hb⟩ := hb; exact Blk.ne_ hb h.top (by decide) e)
/-- no sequence is done -/
theorem RunPart.idle {w : World} {F : Nat → Prop} {m : Ln} (hs : ¬ (m.st = 3 ∨ m.st = 5)) : RunPart w F (.pointer none) m := ⟨fun h => absurd h hs, fun _ => rfl⟩
/-- what is done to a line -/
def outR (x : OutP) : List Value := [.int .i64 x.1, .string (str x.2)]
theorem outR_len (x : OutP) : (outR x).length = 2 := rfl
theorem outR_ones (y : OutP) : ∀ u ∈ outR y, u.oneCell' = true := by intro u hu; simp [outR] at hu; rcases hu with rfl | rfl <;> rfl
/-- behind an act on a line: what is done to it, and the line -/
def Acts (w : World) (F : Nat → Prop) (lb : Nat) (v : Value) (outs : List OutP) (m : Ln) (w' : World) : Prop :=
  OwnS outR 2 w' w.heap.size 98 v outs ∧ LineAt w' (Ext F w w') lb m ∧ Keeps F w w'
theorem lopen (h : LineAt w F lb m) (hs : ¬ (m.st = 3 ∨ m.st = 5)) : Calls Tryz.prog 57 #[.pointer (some ⟨lb, 0, none⟩)] w fun e w' => ∃ v, e = .returned v ∧ Acts w F lb v [(1, [])] { m with st := 2 } w' := by
  obtain ⟨wb, fv, nv, hv, h⟩ := h
  obtain ⟨⟨c0, c1, c2, c3, c4, c5, c6⟩, f1, f3, f4, f5⟩ := h.cells
  have H := Lib.hid h
  clear h
  go_enter Tryz.func57, Tryz.ntmps57
  go_wp2_with fail
  go_ret
  obtain ⟨W1, hW1⟩ : ∃ W1, W1 = w.setCell ⟨lb, 1, none⟩ (.int .i64 2) := ⟨_, rfl⟩
  have k1 : Keeps (fun i => i = lb) w W1 := by rw [hW1]; exact (Keeps.refl (fun i => i = lb) w).setCell (p := ⟨lb, 1, none⟩) (fun _ => rfl) _
  have hb1 : Blk W1 lb 129 (lineC wb 2 fv nv m.at_ hv) := by rw [hW1]; exact H.out.top.set_ 1 (.int .i64 2)
  have hnv := H.out.run.2 hs
  have hV : LineV W1 F lb { m with st := 2 } wb fv nv hv := H.out.upd k1 hb1 ⟨rfl, rfl, rfl, rfl, rfl⟩ (H.out.heldK k1) H.out.fheld (by rw [hnv]; exact RunPart.idle (by simp))
  rw [← hW1]
  have k2 : Keeps (fun _ => False) W1 (W1.alloc (.cells #[.int .i64 1, .string ⟨#[]⟩] 98)) := by (repeat (first | (with_reducible assumption) | (with_reducible exact Keeps.refl _ _) | refine Keeps.drew ?_ | refine Keeps.drewN ?_ _ | refine Keeps.setCell ?_ (by simp) _ | refine Keeps.setRow ?_ (by simp) _ | refine Keeps.alloc ?_ _))
  have hsz : W1.heap.size = w.heap.size := by rw [hW1]; simp [World.setCell]
  have kF : Keeps F w (W1.alloc (.cells #[.int .i64 1, .string ⟨#[]⟩] 98)) := (k1.mono fun i _ e => by rw [e]; exact H.out.fl).trans k2.none_
  refine ⟨_, rfl, ?_, ⟨wb, fv, nv, hv, (hV.keeps k2 (fun _ _ => id)).mono (fun i hi => .inl hi) (H.out.inn.ext kF.size)⟩, kF⟩
  have := OwnS.one (R := outR) (size := 2) (x := (1, [])) W1 98 rfl
  rw [hsz] at this
  exact this
end
end Go.Proofs.YtkmpdobojgiegaaGreatDoor

/-
  seat: a seat in memory; made, held, find, Writer; somebody comes.
-/
namespace Go.Proofs.YtkmpdobojgiegaaGreatDoor
open Go.RowKit

section
variable {P : Program} {α : Type}
/-- append of one element: whose block it was, or a new one -/
theorem wpList_append_sv (R : α → List Value) (size : Nat) (hR : ∀ x, (R x).length = size) (hsz : 0 < size) {w : World} {ops : Array Oper} {rest : List Oper} {o : Oper} {a : Act} {Q : Exit → Act → World → Prop} (hgd : o.guard = none) (s x : Operand) (t : TypeId)
    (ho : o.op = .call { callee := .builtin .append, args := #[s, x], argTypes := #[t, t] }) (B : Nat) (e : TypeId) (z : Value) (bytes : Nat) (ht : P.underlying t = some (.slice e))
    (hi : (P.info? e).map (fun i => (i.zero, i.size, i.bytes)) = some (some z, size, bytes)) (hz : z.cells.size = size) (hb16 : bytes ≤ 4096)
    (v : Value) (xs : List α) (hs : a.eval s = v) (hown : OwnS R size w B e v xs) (g c : Nat) (y : α) (hx : a.eval x = .slice (some ⟨g, 0, none⟩) 1 c) (hu : Blk w g e (R y).toArray) (h1 : ∀ u ∈ R y, u.oneCell' = true)
    (hlen : xs.length ≤ 17179869184) (hbase : B ≤ w.heap.size)
    (h : ∀ g' cap' w', OwnS R size w' B e (.slice (some ⟨g', 0, none⟩) (xs.length + 1) cap') (xs ++ [y]) → Keeps (fun i => v.ownBlock = some i) w w' → (v.ownBlock = some g' ∨ g' = w.heap.size) → wpList P ops Q rest (a.put o.dst (.slice (some ⟨g', 0, none⟩) (xs.length + 1) cap')) w') : wpList P ops Q (o :: rest) a w := by
  refine wpList_plain hgd fun K hK => ?_
  exact wp_append_st R size hR hsz s x t ho B e z bytes ht hi hz hb16 v xs hs hown g c y hx hu h1 hlen hbase (fun g' cap' w' a b c => hK _ _ (h g' cap' w' a b c))
end
def seatC (v : Value) (s : Sea) (q : Nat) : Array Value := #[v, .int .i64 s.most, .int .i64 s.wr, .iface 206 (.pointer (some ⟨q, 0, none⟩))]
/-- the blocks of a seat that may be its queue's -/
def Fq (F : Nat → Prop) (sb : Nat) (v : Value) (i : Nat) : Prop := F i ∧ i ≠ sb ∧ v.ownBlock ≠ some i
theorem QueAt.only {w : World} {F G : Nat → Prop} {q : Nat} {most : Int} {l : List Int} (h : QueAt w F q most l) (hG : ∀ i t cs, Blk w i t cs → t = 275 ∨ t = 3 → F i → G i) : QueAt w G q most l := by
  obtain ⟨v, h1, h2, h3, h4⟩ := h
  exact ⟨v, h1, h2, hG q _ _ h1 (.inl rfl) h3, fun j hj => by obtain ⟨cs, hb⟩ := h2.ownBlk j hj; exact hG j _ _ hb (.inr rfl) (h4 j hj)⟩
/-- a seat at sb, made of the blocks of F -/
structure SeatV (w : World) (F : Nat → Prop) (sb : Nat) (s : Sea) (v : Value) (q : Nat) : Prop where
  top : Blk w sb 154 (seatC v s q)
  row : OwnS mbrR 2 w 0 170 v s.l
  frow : ∀ i, v.ownBlock = some i → F i
  que : QueAt w (Fq F sb v) q s.most s.wait
  fs : F sb
  inn : In F w
  ok : SeaOk s
def SeatAt (w : World) (F : Nat → Prop) (sb : Nat) (s : Sea) : Prop := ∃ v q, SeatV w F sb s v q
def shiftR (x : ShiftP) : List Value := [.int .i64 x.1, .int .i64 x.2]
theorem shiftR_len (x : ShiftP) : (shiftR x).length = 2 := rfl
theorem shiftR_ones (y : ShiftP) : ∀ u ∈ shiftR y, u.oneCell' = true := by intro u hu; simp [shiftR] at hu; rcases hu with rfl | rfl <;> rfl
section
variable {w w' : World} {F G S : Nat → Prop} {sb : Nat} {s : Sea} {v : Value} {q : Nat}
theorem SeatV.keeps (h : SeatV w F sb s v q) (k : Keeps S w w') (hS : ∀ i, F i → ¬ S i) : SeatV w' F sb s v q :=
  ⟨h.top.keeps k (hS _ h.fs), h.row.far k (fun i hi => hS _ (h.frow i hi)), h.frow, h.que.keeps k (fun i hi => hS i hi.1), h.fs, h.inn.later k, h.ok⟩
theorem SeatAt.keeps (h : SeatAt w F sb s) (k : Keeps S w w') (hS : ∀ i, F i → ¬ S i) : SeatAt w' F sb s := by
  obtain ⟨v, q, h⟩ := h
  exact ⟨v, q, h.keeps k hS⟩
theorem SeatV.mono (h : SeatV w F sb s v q) (hG : ∀ i, F i → G i) (hI : In G w) : SeatV w G sb s v q :=
  ⟨h.top, h.row, fun i hi => hG _ (h.frow i hi), h.que.mono (fun i hi => ⟨hG i hi.1, hi.2⟩), hG _ h.fs, hI, h.ok⟩
theorem SeatAt.mono (h : SeatAt w F sb s) (hG : ∀ i, F i → G i) (hI : In G w) : SeatAt w G sb s := by
  obtain ⟨v, q, h⟩ := h
  exact ⟨v, q, h.mono hG hI⟩
theorem SeatAt.inn (h : SeatAt w F sb s) : In F w := by obtain ⟨v, q, h⟩ := h; exact h.inn
theorem SeatAt.ok (h : SeatAt w F sb s) : SeaOk s := by obtain ⟨v, q, h⟩ := h; exact h.ok
theorem SeatV.cells (h : SeatV w F sb s v q) : (w.cell? ⟨sb, 0, none⟩ = some v ∧ w.cell? ⟨sb, 1, none⟩ = some (.int .i64 s.most) ∧ w.cell? ⟨sb, 2, none⟩ = some (.int .i64 s.wr) ∧ w.cell? ⟨sb, 3, none⟩ = some (.iface 206 (.pointer (some ⟨q, 0, none⟩)))) ∧
    w.frozen? ⟨sb, 0, none⟩ = false ∧ w.frozen? ⟨sb, 2, none⟩ = false := ⟨⟨h.top.cell 0, h.top.cell 1, h.top.cell 2, h.top.cell 3⟩, h.top.frozen 0, h.top.frozen 2⟩
theorem SeatV.len (h : SeatV w F sb s v q) : s.l.length ≤ 4096 := by have := h.ok.len; have := h.ok.m2; omega
set_option maxRecDepth 100000 in
theorem smade (h : SeatAt w F sb s) : Calls Tryz.prog 74 #[.pointer (some ⟨sb, 0, none⟩)] w fun e w' => e = .returned (.bool true) ∧ w' = w := by
  obtain ⟨v, q, h⟩ := h
  obtain ⟨⟨c0, c1, c2, c3⟩, -⟩ := h.cells
  clear h
  go_enter Tryz.func74, Tryz.ntmps74
  go_wp2_with fail
  go_ret
  exact ⟨rfl, rfl⟩
set_option maxRecDepth 100000 in
theorem sheld (h : SeatAt w F sb s) : Calls Tryz.prog 75 #[.pointer (some ⟨sb, 0, none⟩)] w fun e w' => e = .returned (.bool (decide (s.wr ≠ -1))) ∧ w' = w := by
  obtain ⟨v, q, h⟩ := h
  obtain ⟨⟨c0, c1, c2, c3⟩, -⟩ := h.cells
  clear h
  have hb : (s.wr != -1) = decide (s.wr ≠ -1) := by by_cases hh : s.wr = -1 <;> simp [hh]
  go_enter Tryz.func75, Tryz.ntmps75
  go_wp2_with fail
  go_ret
  exact ⟨by rw [← hb]; rfl, rfl⟩
set_option maxRecDepth 100000 in
theorem sfind (h : SeatAt w F sb s) (who : Int) : Calls Tryz.prog 82 #[.pointer (some ⟨sb, 0, none⟩), .int .i64 who] w fun e w' => (∃ r, e = .returned (.int .i64 r) ∧ FindIs s.l who r) ∧ Keeps (fun _ => False) w w' := by
  obtain ⟨v, q, h⟩ := h
  obtain ⟨⟨c0, c1, c2, c3⟩, -⟩ := h.cells
  obtain ⟨a, c, rfl, hs⟩ := h.row.sla mbrR_len
  obtain ⟨n, hn⟩ : ∃ n, n = s.l.length := ⟨_, rfl⟩
  have hn2 : n ≤ 4611686018427387904 := by have := h.len; omega
  rw [← hn] at hs c0
  have HI := Lib.hid (fun W (k : Keeps (fun _ => False) w W) (b : Nat) (hb : W.cell? ⟨b, 0, none⟩ = some (.int .i64 who)) => sindexm W a n c s.l (hs.keeps k (fun _ _ => id)) hn2 b who hb)
  have d0 : ∀ o, (w.alloc o).cell? ⟨sb, 0, none⟩ = some (.slice a n c) := fun o => (World.cell?_of_block (w := w) (((Keeps.refl (fun _ => False) w).alloc o).block _ (block_lt_of_cell c0) id)).trans c0
  have hmf : ∀ (fn : Fn) (first cap : Array Value) (w : World), (Instr.makeFunc fn first cap).run Tryz.prog w = .ok (.func fn first cap) w := fun _ _ _ _ => rfl
  clear h hs hn hn2 c1 c2 c3
  go_enter Tryz.func82, Tryz.ntmps82
  go_wp2_with fail
  refine (HI.out _ ((Keeps.refl _ _).alloc _) w.heap.size (Blk.cell (Blk.new _ _ _) 0)).mono ?_
  rintro e w2 ⟨⟨r, rfl, hr⟩, k2⟩
  have HR := Lib.hid hr
  have HK := Lib.hid (((Keeps.refl _ w).alloc _).trans k2)
  clear hr k2
  go_wp2_with fail
  go_ret
  exact ⟨⟨_, rfl, HR.out⟩, HK.out⟩
set_option maxRecDepth 100000 in
theorem swriter (h : SeatAt w F sb s) : Calls Tryz.prog 25 #[.pointer (some ⟨sb, 0, none⟩)] w fun e w' => e = .returned (.tuple #[.int .i64 (if s.wr = -1 then 0 else s.wr), .bool (decide (s.wr ≠ -1))]) ∧ w' = w := by
  have HM := Lib.hid (smade h)
  have HH := Lib.hid (sheld h)
  obtain ⟨v, q, h⟩ := h
  obtain ⟨⟨c0, c1, c2, c3⟩, -⟩ := h.cells
  clear h
  by_cases hw : s.wr = -1
  · rw [if_pos hw]
    rw [hw] at HH c2 ⊢
    clear hw
    go_enter Tryz.func25, Tryz.ntmps25
    go_wp2_with fail
    refine HM.out.mono ?_
    rintro e w2 ⟨rfl, hw⟩
    obtain rfl : w = w2 := hw.symm
    go_wp2_with fail
    refine HH.out.mono ?_
    rintro e w2 ⟨rfl, hw⟩
    obtain rfl : w = w2 := hw.symm
    go_wp2_with fail
    go_ret2
    exact ⟨rfl, rfl⟩
  · rw [if_neg hw, decide_eq_true hw]
    rw [decide_eq_true hw] at HH
    clear hw
    go_enter Tryz.func25, Tryz.ntmps25
    go_wp2_with fail
    refine HM.out.mono ?_
    rintro e w2 ⟨rfl, hw⟩
    obtain rfl : w = w2 := hw.symm
    go_wp2_with fail
    refine HH.out.mono ?_
    rintro e w2 ⟨rfl, hw⟩
    obtain rfl : w = w2 := hw.symm
    go_wp2_with fail
    go_ret2
    exact ⟨rfl, rfl⟩
end
end Go.Proofs.YtkmpdobojgiegaaGreatDoor

/-
  queue: Take; seat: become, next.
-/
namespace Go.Proofs.YtkmpdobojgiegaaGreatDoor
open Go.RowKit

theorem Blk.newAt {w : World} {g : Nat} {t : TypeId} {cs : Array Value} (h : g = w.heap.size) : Blk (w.alloc (.cells cs t)) g t cs := by rw [h]; exact Blk.new w t cs
theorem mDrop (v : Value) (w : World) : (Go.method 520 206 v "Drop").run Tryz.prog w = .ok (308, v) w := by kernel_rfl
section
variable {w w' : World} {F G S : Nat → Prop} {q : Nat} {most : Int} {l : List Int}
end
section
variable {w w' : World} {F G S : Nat → Prop} {sb : Nat} {s : Sea} {v : Value} {q : Nat}
/-- of a seat its queue alone was changed -/
theorem SeatV.queued (h : SeatV w F sb s v q) (k : Keeps (Fq F sb v) w w') {l : List Int} (hq : QueAt w' (Fq F sb v) q s.most l) (ok : SeaOk { s with wait := l }) : SeatV w' F sb { s with wait := l } v q :=
  ⟨h.top.keeps k (fun e => e.2.1 rfl), h.row.far k (fun _ hi e => e.2.2 hi), h.frow, hq, h.fs, h.inn.later k, ok⟩
/-- the writer is another one -/
theorem SeatV.wrote (h : SeatV w F sb s v q) (x : Int) (ok : SeaOk { s with wr := x }) : SeatV (w.setCell ⟨sb, 2, none⟩ (.int .i64 x)) F sb { s with wr := x } v q ∧ Keeps (fun i => i = sb) w (w.setCell ⟨sb, 2, none⟩ (.int .i64 x)) := by
  have k : Keeps (fun i => i = sb) w (w.setCell ⟨sb, 2, none⟩ (.int .i64 x)) := (Keeps.refl (fun i => i = sb) w).setCell (p := ⟨sb, 2, none⟩) (fun _ => rfl) _
  exact ⟨⟨h.top.set_ 2 _, h.row.far k (fun i hi e => by obtain ⟨cs, hb⟩ := h.row.ownBlk i hi; exact Blk.ne_ hb h.top (by decide) e), h.frow, h.que.keeps k (fun i hi => hi.2.1), h.fs, h.inn.later k, ok⟩, k⟩
theorem ok_wait (h : SeaOk s) (who : Int) : SeaOk { s with wait := dropQ s.wait who } := by
  have := dropQ_len s.wait who
  have := h.wlen
  exact ⟨h.m1, h.m2, h.len, by show ((dropQ s.wait who).length : Int) ≤ s.most; omega, h.ids, h.pos, h.wids.filter _, fun x hx => h.wsub x (dropQ_mem.1 hx).1, h.wr, fun e => h.wnot (dropQ_mem.1 e).1⟩
set_option maxRecDepth 100000 in
theorem sbecome (h : SeatAt w F sb s) (who : Int) (hi : who ∈ s.l.map Mbr.id) : Calls Tryz.prog 81 #[.pointer (some ⟨sb, 0, none⟩), .int .i64 who] w fun e w' =>
    ∃ o, e = .returned o ∧ OwnS shiftR 2 w' w.heap.size 165 o (becomeS s who).2 ∧ SeatAt w' F sb (becomeS s who).1 ∧ Keeps F w w' := by
  have HH := Lib.hid (sheld h)
  obtain ⟨v, q, h⟩ := h
  obtain ⟨⟨c0, c1, c2, c3⟩, f0, f2⟩ := h.cells
  have hq := fun W (k : Keeps (fun _ => False) w W) => qdrop (h.que.keeps k (fun _ _ h => h)) h.ok.wids (by have := h.ok.wlen; have := h.ok.m2; omega) who
  have HQ := Lib.hid hq
  have HV := Lib.hid h
  have HI := Lib.hid hi
  have hmD := mDrop
  clear h hq hi c0 c1 f0
  by_cases hw : s.wr = -1
  · rw [hw] at HH c2
    rw [show decide ((-1 : Int) ≠ -1) = false from by decide] at HH
    have HW := Lib.hid hw
    clear hw
    go_enter Tryz.func81, Tryz.ntmps81
    go_wp2_with fail
    refine HH.out.mono ?_
    rintro e w2 ⟨rfl, hw⟩
    obtain rfl : w = w2 := hw.symm
    go_wp2_with fail
    refine (HQ.out _ (Keeps.refl _ _)).mono ?_
    rintro e w2 ⟨rfl, hq, k2⟩
    have hok := HV.out.ok.become HI.out
    have hV2 := HV.out.queued k2 hq (ok_wait HV.out.ok who)
    obtain ⟨⟨c0, c1, c2, c3⟩, f0, f2⟩ := hV2.cells
    have HV2 := Lib.hid hV2
    have HK2 := Lib.hid k2
    have HOK := Lib.hid hok
    clear hq k2 hV2 c0 c1 f0 hok
    go_wp2_with (with_reducible show wpList _ _ _ (⟨some 30, _, _, _, _, _⟩ :: _) _ _; go_must (refine wpList_append_sv shiftR 2 shiftR_len (by decide) rfl (.tmp 26) (.tmp 29) 85 rfl w.heap.size 165 (.agg #[.int .i64 0, .int .i64 0]) 16 Tryz.underlying85 (by kernel_rfl) rfl (by decide) (.slice none 0 0) [] rfl OwnS.none_ _ _ (who, 2) rfl (Blk.newAt (by simp [World.setCell])) (shiftR_ones _) (by decide) (by simp [World.setCell]; have := HK2.out.size; omega) ?_; intro g9 c9 w9 hO9 k9 hg9; have HO9 := Lib.hid hO9; have HK9 := Lib.hid k9; clear hO9 k9 hg9))
    go_ret
    obtain ⟨hV3, k3⟩ := HV2.out.wrote who HOK.out
    have kA : Keeps (fun _ => False) (w2.setCell ⟨sb, 2, none⟩ (.int .i64 who)) w9 := ((Keeps.refl _ _).alloc _).trans (HK9.out.mono fun i _ e => by simp [Value.ownBlock] at e)
    have hV9 := hV3.keeps kA (fun _ _ h => h)
    refine ⟨_, rfl, ?_, ⟨v, q, hV9⟩, ((HK2.out.mono fun _ _ e => e.1).trans (k3.mono fun i _ e => by rw [e]; exact HV.out.fs)).trans kA.none_⟩
    have hs : (becomeS s who).2 = [(who, 2)] := by unfold becomeS; rw [HW.out]; rfl
    rw [hs]
    exact HO9.out
  · rw [decide_eq_true hw] at HH
    have HW := Lib.hid hw
    have c2 := HV.out.cells.1.2.2.1
    clear hw
    go_enter Tryz.func81, Tryz.ntmps81
    go_wp2_with fail
    refine HH.out.mono ?_
    rintro e w2 ⟨rfl, hw⟩
    obtain rfl : w = w2 := hw.symm
    clear hw
    go_wp2_with (with_reducible show wpList _ _ _ (⟨some 15, _, _, _, _, _⟩ :: _) _ _; go_must (refine wpList_append_sv shiftR 2 shiftR_len (by decide) rfl (.tmp 8) (.tmp 14) 85 rfl w.heap.size 165 (.agg #[.int .i64 0, .int .i64 0]) 16 Tryz.underlying85 (by kernel_rfl) rfl (by decide) (.slice none 0 0) [] rfl OwnS.none_ _ _ (s.wr, 1) rfl (Blk.newAt (by rfl)) (shiftR_ones _) (by decide) (by simp) ?_; intro g5 c5 w5 hO5 k5 hg5; have kN : Keeps (fun _ => False) w w5 := ((Keeps.refl _ _).alloc _).trans (k5.mono fun i _ e => by simp [Value.ownBlock] at e); have hV5 := HV.out.keeps kN (fun _ _ h => h); obtain ⟨⟨d0, d1, d2, d3⟩, g0, g2⟩ := hV5.cells; have HO5 := Lib.hid hO5; have HK5 := Lib.hid kN; have HV5 := Lib.hid hV5; clear hO5 k5 hg5 kN hV5 d0 d1 c2 c3 g0))
    refine (HQ.out _ HK5.out).mono ?_
    rintro e w6 ⟨rfl, hq, k6⟩
    have hV6 := HV5.out.queued k6 hq (ok_wait HV.out.ok who)
    obtain ⟨⟨d0, d1, d2, d3⟩, g0, g2⟩ := hV6.cells
    have hO6 := HO5.out.far k6 (fun i hi e => by
      have h1 := HV.out.inn i e.1
      have h2 := (World.ownsRow.lt HO5.out i hi).1
      omega)
    have HV6 := Lib.hid hV6
    have HK6 := Lib.hid k6
    have HO6 := Lib.hid hO6
    have HOK := Lib.hid (HV.out.ok.become HI.out)
    clear hq k6 hV6 d0 d1 g0 hO6
    have HO7 := Lib.hid (fun o => ((HO6.out.far (w' := w6.setCell ⟨sb, 2, none⟩ (.int .i64 who)) ((Keeps.refl (fun i => i = sb) w6).setCell (p := ⟨sb, 2, none⟩) (fun _ => rfl) _) (fun i hi e => by have e : i = sb := e; have h1 := HV.out.inn sb HV.out.fs; have h2 := (World.ownsRow.lt HO6.out i hi).1; omega)).far ((Keeps.refl (fun _ => False) _).alloc o) (fun _ _ h => h)))
    go_wp2_with (with_reducible show wpList _ _ _ (⟨some 30, _, _, _, _, _⟩ :: _) _ _; go_must (refine wpList_append_sv shiftR 2 shiftR_len (by decide) rfl (.tmp 26) (.tmp 29) 85 rfl w.heap.size 165 (.agg #[.int .i64 0, .int .i64 0]) 16 Tryz.underlying85 (by kernel_rfl) rfl (by decide) (.slice (some ⟨g5, 0, none⟩) 1 c5) [(s.wr, 1)] rfl (HO7.out _) _ _ (who, 2) rfl (Blk.newAt (by simp [World.setCell])) (shiftR_ones _) (by simp) (by simp [World.setCell]; have := HK5.out.size; have := HK6.out.size; omega) ?_; intro g9 c9 w9 hO9 k9 hg9; have HO9 := Lib.hid hO9; have HK9 := Lib.hid k9; clear hO9 k9 hg9))
    go_ret
    obtain ⟨hV7, k7⟩ := HV6.out.wrote who HOK.out
    have k8 : Keeps (fun _ => False) (w6.setCell ⟨sb, 2, none⟩ (.int .i64 who)) ((w6.setCell ⟨sb, 2, none⟩ (.int .i64 who)).alloc (.cells #[.int .i64 who, .int .i64 2] 165)) := (Keeps.refl _ _).alloc _
    have hV8 := hV7.keeps k8 (fun _ _ h => h)
    have hold : ∀ i, (Value.slice (some ⟨g5, 0, none⟩) 1 c5).ownBlock = some i → w.heap.size ≤ i := fun i hi => (World.ownsRow.lt HO6.out i hi).1
    have hV9 := hV8.keeps HK9.out (fun i hi e => by have := HV.out.inn i hi; have := hold i e; omega)
    have kF : Keeps F w ((w6.setCell ⟨sb, 2, none⟩ (.int .i64 who)).alloc (.cells #[.int .i64 who, .int .i64 2] 165)) := ((HK5.out.none_.trans (HK6.out.mono fun _ _ e => e.1)).trans (k7.mono fun i _ e => by rw [e]; exact HV.out.fs)).trans k8.none_
    refine ⟨_, rfl, ?_, ⟨v, q, hV9⟩, kF.and_ HK9.out (fun i hi e => by have := hold i e; omega)⟩
    have hs : (becomeS s who).2 = [(s.wr, 1), (who, 2)] := by unfold becomeS; rw [if_pos (HV.out.ok.wr_pos.resolve_left HW.out)]; rfl
    rw [hs]
    exact HO9.out
end
end Go.Proofs.YtkmpdobojgiegaaGreatDoor

/-
  seat: next, come.
-/
namespace Go.Proofs.YtkmpdobojgiegaaGreatDoor
open Go.RowKit

theorem QueAt.far_ {w w' : World} {F : Nat → Prop} {q g : Nat} {most : Int} {l : List Int} {t : TypeId} {cs : Array Value} (h : QueAt w F q most l) (hb : Blk w g t cs) (h1 : t ≠ 275) (h2 : t ≠ 3) (k : Keeps (fun i => i = g) w w') : QueAt w' F q most l := by
  obtain ⟨v, q1, q2, q3, q4⟩ := h
  exact ⟨v, q1.keeps k (fun e => Blk.ne_ q1 hb (fun e => h1 e.symm) e), q2.far k (fun i hi e => by obtain ⟨cs, hb2⟩ := q2.ownBlk i hi; exact Blk.ne_ hb2 hb (fun e => h2 e.symm) e), q3, q4⟩
section
variable {w w' : World} {F G S : Nat → Prop} {sb : Nat} {s : Sea} {v : Value} {q : Nat}
theorem SeatAt.queued (h : SeatV w F sb s v q) (k : Keeps (Fq F sb v) w w') {l : List Int} (hq : QueAt w' (Fq F sb v) q s.most l) (ok : SeaOk { s with wait := l }) : SeatAt w' F sb { s with wait := l } := ⟨v, q, h.queued k hq ok⟩
set_option maxRecDepth 100000 in
set_option maxHeartbeats 400000 in
theorem scome (h : SeatAt w F sb s) (who lvl : Int) (hh : who ≤ 9223372036854775807) (hl : lvl ≤ 9223372036854775807) : Calls Tryz.prog 80 #[.pointer (some ⟨sb, 0, none⟩), .int .i64 who, .int .i64 lvl] w fun e w' =>
    e = .returned (.int .i64 (comeS s who lvl false).2.2) ∧ SeatAt w' (Ext F w w') sb (comeS s who lvl false).1 ∧ Keeps F w w' := by
  have HS := Lib.hid h
  have HM := Lib.hid (smade h)
  have HF := Lib.hid (sfind h who)
  have hE : ∀ W, Keeps (fun _ => False) w W → SeatAt W (Ext F w W) sb s ∧ Keeps F w W := fun W k => ⟨(h.keeps k (fun _ _ h => h)).mono (fun _ h => .inl h) (h.inn.ext k.size), k.none_⟩
  have HE := Lib.hid hE
  obtain ⟨R, hR⟩ : ∃ R, R = comeS s who lvl false := ⟨_, rfl⟩
  have hm : R = (if who < 0 then (s, [], 1) else if thereS s who then (s, [], 8) else if lvl < 1 then (s, [], 10) else if s.most ≤ s.l.length then (s, [], 6) else ({ s with l := s.l ++ [⟨who, lvl⟩] }, [(who, 1)], 0)) := by
    rw [hR]; unfold comeS; simp
  have HC := Lib.hid (show SeaOk R.1 from by rw [hR]; exact h.ok.come who lvl false hh hl)
  rw [← hR]
  have HR := Lib.hid hm
  obtain ⟨v, q, h⟩ := h
  have HV := Lib.hid h
  obtain ⟨⟨c0, c1, c2, c3⟩, f0, f2⟩ := h.cells
  clear h hE hR hm c2 c3 f2
  by_cases h0 : who < 0
  · have HRR : Hid (R = (s, [], 1)) := Lib.hid (by rw [HR.out, if_pos h0])
    go_enter Tryz.func80, Tryz.ntmps80
    go_wp2_with fail
    refine HM.out.mono ?_
    rintro e w2 ⟨rfl, hw⟩
    obtain rfl : w = w2 := hw.symm
    go_wp2_with fail
    go_ret
    rw [HRR.out]
    exact ⟨rfl, HE.out _ (Keeps.refl _ _)⟩
  · have H0 := Lib.hid h0
    go_enter Tryz.func80, Tryz.ntmps80
    go_wp2_with fail
    refine HM.out.mono ?_
    rintro e w2 ⟨rfl, hw⟩
    obtain rfl : w = w2 := hw.symm
    go_wp2_with fail
    refine HF.out.mono ?_
    rintro e w2 ⟨⟨r, rfl, hr⟩, k2⟩
    have HK2 := Lib.hid k2
    rcases hr with ⟨k, m, hk, hrk, hkm, hmi⟩ | ⟨rfl, hno⟩
    · have HRR : Hid (R = (s, [], 8)) := Lib.hid (by rw [HR.out, if_neg (by have := H0.out; omega), FindIs.there hkm hmi]; rfl)
      have hr0 : 0 ≤ r := by omega
      clear hk hrk hkm hmi c0 c1 f0 k2
      go_wp2_with fail
      go_ret
      rw [HRR.out]
      exact ⟨rfl, HE.out _ HK2.out⟩
    · have hth := not_there hno
      have HN := Lib.hid hno
      by_cases h1 : lvl < 1
      · have HRR : Hid (R = (s, [], 10)) := Lib.hid (by rw [HR.out, if_neg (by have := H0.out; omega), hth, if_pos h1]; rfl)
        clear hno hth c0 c1 f0 k2
        go_wp2_with fail
        go_ret
        rw [HRR.out]
        exact ⟨rfl, HE.out _ HK2.out⟩
      · have H1 := Lib.hid h1
        have hV2 := HV.out.keeps k2 (fun _ _ h => h)
        obtain ⟨⟨d0, d1, -, -⟩, g0, -⟩ := hV2.cells
        obtain ⟨a, c, hva, -⟩ := hV2.row.sla mbrR_len
        obtain ⟨n, hn⟩ : ∃ n, n = s.l.length := ⟨_, rfl⟩
        obtain ⟨M, hM⟩ : ∃ M, M = s.most := ⟨_, rfl⟩
        rw [← hn] at hva
        rw [← hM] at d1
        rw [hva] at d0
        have HV2 := Lib.hid hV2
        have HVA := Lib.hid hva
        by_cases h2 : s.most ≤ s.l.length
        · have HRR : Hid (R = (s, [], 6)) := Lib.hid (by rw [HR.out, if_neg (by have := H0.out; omega), hth, if_neg (by decide), if_neg (by have := H1.out; omega), if_pos h2])
          have h2b : M ≤ (n : Int) := by rw [hM, hn]; exact h2
          clear hno hth c0 c1 f0 k2 h2 hn hM hva hV2
          go_wp2_with fail
          go_region
          go_wp2_with fail
          go_ret
          rw [HRR.out]
          exact ⟨rfl, HE.out _ (HK2.out.drew)⟩
        · have h2b : ¬ M ≤ (n : Int) := by rw [hM, hn]; exact h2
          have HRR : Hid (R = ({ s with l := s.l ++ [⟨who, lvl⟩] }, [(who, 1)], 0)) := Lib.hid (by rw [HR.out, if_neg (by have := H0.out; omega), hth, if_neg (by decide), if_neg (by have := H1.out; omega), if_neg h2])
          have hlen := hV2.len
          rw [← hn] at hlen
          have hrow := hV2.row
          rw [hva] at hrow
          have hFr := hV2.frow
          rw [hva] at hFr
          have HROW := Lib.hid hrow
          have HFR := Lib.hid hFr
          have HNN := Lib.hid hn
          clear hno hth c0 c1 f0 k2 h2 hn hM hva hV2 hrow hFr
          go_wp2_with fail
          go_region
          have HROWD := Lib.hid (fun o => HROW.out.far (w' := (w2.alloc o).drew) ((Keeps.refl (fun _ => False) _).alloc o).drew (fun _ _ h => h))
          go_wp2_with ((with_reducible show wpList _ _ _ (⟨some 42, _, _, _, _, _⟩ :: _) _ _); go_must (refine wpList_append_sv mbrR 2 mbrR_len (by decide) rfl (.tmp 37) (.tmp 41) 150 rfl 0 170 (.agg #[.int .i64 0, .int .i64 0]) 16 Tryz.underlying150 (by kernel_rfl) rfl (by decide) (.slice a n c) s.l rfl (HROWD.out _) _ _ ⟨who, lvl⟩ rfl (Blk.drew (Blk.newAt rfl)) (mbrR_ones _) (by have := HNN.out; omega) (Nat.zero_le _) ?_; rw [← HNN.out]; intro g9 c9 w9 hO9 k9 hg9; have kN : Keeps (fun i => (Value.slice a n c).ownBlock = some i) w2 w9 := ((Keeps.refl _ _).alloc _).drew.trans k9; have hsb : (Value.slice a n c).ownBlock ≠ some sb := (fun e => by obtain ⟨cs, hb⟩ := HROW.out.ownBlk _ e; exact Blk.ne_ HV2.out.top hb (by decide) rfl); have ht9 := HV2.out.top.keeps kN hsb; have e0 := ht9.cell 0; have e1 := ht9.frozen 0; unfold seatC at e0; simp only [List.getElem?_toArray, List.getElem?_cons_zero] at e0; have HO9 := Lib.hid hO9; have HK9 := Lib.hid kN; have HG9 := Lib.hid hg9; have HT9 := Lib.hid ht9; clear hO9 k9 kN hg9 hsb ht9 d0 d1 g0))
          go_ret
          have hRC := HC.out
          rw [HRR.out] at hRC ⊢
          obtain ⟨WE, hWE⟩ : ∃ WE, WE = w9.setCell ⟨sb, 0, none⟩ (.slice (some ⟨g9, 0, none⟩) (n + 1) c9) := ⟨_, rfl⟩
          have kE : Keeps (fun i => i = sb) w9 WE := by rw [hWE]; exact (Keeps.refl (fun i => i = sb) w9).setCell (p := ⟨sb, 0, none⟩) (fun _ => rfl) _
          have hbE : Blk WE sb 154 (seatC (.slice (some ⟨g9, 0, none⟩) (n + 1) c9) s q) := by rw [hWE]; exact HT9.out.set_ 0 _
          rw [← hWE]
          have k29 : Keeps F w2 w9 := HK9.out.mono fun i _ e => HFR.out i e
          have kF : Keeps F w WE := (HK2.out.none_.trans k29).trans (kE.mono fun i _ e => by rw [e]; exact HV.out.fs)
          have hOE := HO9.out.far kE (fun i hi e => by obtain ⟨cs, hb⟩ := HO9.out.ownBlk i hi; exact Blk.ne_ hb HT9.out (by decide) e)
          have hg9lt := (World.ownsRow.lt HO9.out g9 (by simp [Value.ownBlock])).2
          have hqE : QueAt WE (fun i => F i) q s.most s.wait := ((HV2.out.que.keeps HK9.out (fun i hi e => hi.2.2 (by rw [HVA.out]; exact e))).far_ HT9.out (by decide) (by decide) kE).mono (fun i hi => hi.1)
          refine ⟨rfl, ⟨_, q, ⟨hbE, ?_, fun i hi => ?_, ?_, .inl HV.out.fs, HV.out.inn.ext kF.size, hRC⟩⟩, kF⟩
          · exact hOE
          · simp [Value.ownBlock] at hi
            subst hi
            rcases HG9.out with e | e
            · exact .inl (HFR.out _ e)
            · exact .inr ⟨by have := HK2.out.size; simp at e; omega, Nat.lt_of_lt_of_le hg9lt kE.size⟩
          · refine hqE.only fun i t cs hb ht hi => ⟨.inl hi, fun e => ?_, fun e => ?_⟩
            · rcases ht with rfl | rfl
              · exact Blk.ne_ hb hbE (by decide) e
              · exact Blk.ne_ hb hbE (by decide) e
            · obtain ⟨ds, hd⟩ := hOE.ownBlk i e
              rcases ht with rfl | rfl
              · exact Blk.ne_ hb hd (by decide) rfl
              · exact Blk.ne_ hb hd (by decide) rfl
end
end Go.Proofs.YtkmpdobojgiegaaGreatDoor

/-
  seat: New, Call, Leave, List.
-/
namespace Go.Proofs.YtkmpdobojgiegaaGreatDoor
open Go.RowKit

theorem come_call {s : Sea} {who lvl : Int} (h : SeaOk s) (h0 : (comeS s who lvl false).2.2 = 0) (hc : s.wr = -1 ∧ 2 ≤ lvl) :
    comeS s who lvl true = ((becomeS (comeS s who lvl false).1 who).1, (becomeS (comeS s who lvl false).1 who).2, 0) ∧ who ∈ (comeS s who lvl false).1.l.map Mbr.id := by
  unfold comeS at h0 ⊢
  by_cases h1 : who < 0
  · rw [if_pos h1] at h0; cases h0
  · rw [if_neg h1] at h0
    by_cases h2 : thereS s who = true
    · rw [if_pos h2] at h0; cases h0
    · rw [if_neg h2] at h0
      by_cases h3 : lvl < 1
      · rw [if_pos h3] at h0; cases h0
      · rw [if_neg h3] at h0
        by_cases h4 : s.most ≤ s.l.length
        · rw [if_pos h4] at h0; cases h0
        · rw [if_neg h1, if_neg h1, if_neg h2, if_neg h2, if_neg h3, if_neg h3, if_neg h4, if_neg h4, if_pos ⟨rfl, by omega, hc.2⟩, if_neg (by simp)]
          have hd : dropQ s.wait who = s.wait := dropQ_not fun e => h2 (there_iff.2 (h.wsub _ e))
          refine ⟨?_, by simp⟩
          unfold becomeS
          simp only [hd, hc.1]
          rfl
theorem come_spy {s : Sea} {who lvl : Int} (h : SeaOk s) (h0 : (comeS s who lvl false).2.2 = 0) (hc : ¬ (s.wr = -1 ∧ 2 ≤ lvl)) :
    comeS s who lvl true = ((comeS s who lvl false).1, [(who, 1)], 0) := by
  have hw := h.wr_pos
  unfold comeS at h0 ⊢
  by_cases h1 : who < 0
  · rw [if_pos h1] at h0; cases h0
  · rw [if_neg h1] at h0
    by_cases h2 : thereS s who = true
    · rw [if_pos h2] at h0; cases h0
    · rw [if_neg h2] at h0
      by_cases h3 : lvl < 1
      · rw [if_pos h3] at h0; cases h0
      · rw [if_neg h3] at h0
        by_cases h4 : s.most ≤ s.l.length
        · rw [if_pos h4] at h0; cases h0
        · rw [if_neg h1, if_neg h1, if_neg h2, if_neg h2, if_neg h3, if_neg h3, if_neg h4, if_neg h4, if_neg (fun e => hc ⟨by have := e.2.1; omega, e.2.2⟩), if_neg (by simp)]
theorem come_no {s : Sea} {who lvl : Int} (h0 : (comeS s who lvl false).2.2 ≠ 0) : comeS s who lvl true = comeS s who lvl false ∧ (comeS s who lvl false).2.1 = [] ∧ (comeS s who lvl false).1 = s := by
  unfold comeS at h0 ⊢
  by_cases h1 : who < 0
  · rw [if_pos h1, if_pos h1]; exact ⟨rfl, rfl, rfl⟩
  · rw [if_neg h1] at h0
    rw [if_neg h1, if_neg h1]
    by_cases h2 : thereS s who = true
    · rw [if_pos h2, if_pos h2]; exact ⟨rfl, rfl, rfl⟩
    · rw [if_neg h2] at h0
      rw [if_neg h2, if_neg h2]
      by_cases h3 : lvl < 1
      · rw [if_pos h3, if_pos h3]; exact ⟨rfl, rfl, rfl⟩
      · rw [if_neg h3] at h0
        rw [if_neg h3, if_neg h3]
        by_cases h4 : s.most ≤ s.l.length
        · rw [if_pos h4, if_pos h4]; exact ⟨rfl, rfl, rfl⟩
        · rw [if_neg h4, if_neg (by simp)] at h0
          exact absurd rfl h0
theorem come_wr {s : Sea} {who lvl : Int} : (comeS s who lvl false).1.wr = s.wr := by
  unfold comeS
  split
  · rfl
  · split
    · rfl
    · split
      · rfl
      · split
        · rfl
        · rw [if_neg (by simp)]
section
variable {w w' : World} {F G S : Nat → Prop} {sb : Nat} {s : Sea} {v : Value} {q : Nat}
set_option maxRecDepth 100000 in
theorem scall (h : SeatAt w F sb s) (who lvl : Int) (hh : who ≤ 9223372036854775807) (hl : lvl ≤ 9223372036854775807) : Calls Tryz.prog 32 #[.pointer (some ⟨sb, 0, none⟩), .int .i64 who, .int .i64 lvl] w fun e w' =>
    ∃ o, e = .returned (.tuple #[o, .int .i64 (comeS s who lvl true).2.2]) ∧ OwnS shiftR 2 w' w.heap.size 165 o (comeS s who lvl true).2.1 ∧ SeatAt w' (Ext F w w') sb (comeS s who lvl true).1 ∧ Keeps F w w' := by
  have HC := Lib.hid (scome h who lvl hh hl)
  have HS := Lib.hid h
  clear h
  obtain ⟨R, hR⟩ : ∃ R, R = comeS s who lvl false := ⟨_, rfl⟩
  rw [← hR] at HC
  obtain ⟨T, hT⟩ : ∃ T, T = comeS s who lvl true := ⟨_, rfl⟩
  rw [← hT]
  by_cases h0 : R.2.2 = 0
  · have hwr : R.1.wr = s.wr := by rw [hR]; exact come_wr
    by_cases hc : s.wr = -1 ∧ 2 ≤ lvl
    · have ha := come_call HS.out.ok (by rw [← hR]; exact h0) hc
      rw [← hT, ← hR] at ha
      rw [h0] at HC
      have HA := Lib.hid ha
      have hlv := hc.2
      have HW := Lib.hid (hwr.trans hc.1)
      clear ha hR hT h0 hc hwr
      go_enter Tryz.func32, Tryz.ntmps32
      go_wp2_with fail
      refine HC.out.mono ?_
      rintro e w2 ⟨rfl, hS2, k2⟩
      have HH := sheld hS2
      rw [HW.out] at HH
      have HHH := Lib.hid HH
      have HB := Lib.hid (sbecome hS2 who HA.out.2)
      have HS2 := Lib.hid hS2
      have HK2 := Lib.hid k2
      clear hS2 k2 HH
      go_wp2_with fail
      refine HHH.out.mono ?_
      rintro e w3 ⟨rfl, hw⟩
      obtain rfl : w2 = w3 := hw.symm
      go_wp2_with fail
      refine HB.out.mono ?_
      rintro e w3 ⟨o, rfl, hO, hS3, k3⟩
      have HO := Lib.hid hO
      have HS3 := Lib.hid hS3
      have HK3 := Lib.hid k3
      clear hO hS3 k3
      go_wp2_with fail
      go_ret2
      rw [HA.out.1]
      refine ⟨_, rfl, HO.out.moreS HK2.out.size, HS3.out.mono (fun i hi => hi.imp id (fun e => ⟨e.1, Nat.lt_of_lt_of_le e.2 HK3.out.size⟩)) (HS.out.inn.ext (Nat.le_trans HK2.out.size HK3.out.size)), HK2.out.more HK3.out (fun _ h => h)⟩
    · have ha := come_spy HS.out.ok (by rw [← hR]; exact h0) hc
      rw [← hT, ← hR] at ha
      rw [h0] at HC
      have HA := Lib.hid ha
      have HCC := Lib.hid hc
      have HWR := Lib.hid hwr
      by_cases hw : s.wr = -1
      · have hlv : lvl < 2 := by
          by_cases e : 2 ≤ lvl
          · exact absurd ⟨hw, e⟩ hc
          · omega
        have HW := Lib.hid (hwr.trans hw)
        clear ha hR hT h0 hc hwr hw
        go_enter Tryz.func32, Tryz.ntmps32
        go_wp2_with fail
        refine HC.out.mono ?_
        rintro e w2 ⟨rfl, hS2, k2⟩
        have HH := sheld hS2
        rw [HW.out] at HH
        have HHH := Lib.hid HH
        have HS2 := Lib.hid hS2
        have HK2 := Lib.hid k2
        clear hS2 k2 HH
        go_wp2_with fail
        refine HHH.out.mono ?_
        rintro e w3 ⟨rfl, hw⟩
        obtain rfl : w2 = w3 := hw.symm
        go_wp2_with fail
        go_ret2
        rw [HA.out]
        have k3 : Keeps (fun _ => False) w2 (w2.alloc (.cells #[.int .i64 who, .int .i64 1] 165)) := (Keeps.refl _ _).alloc _
        refine ⟨_, rfl, (OwnS.one (R := shiftR) (size := 2) (x := (who, 1)) w2 165 rfl).moreS HK2.out.size, (HS2.out.keeps k3 (fun _ _ h => h)).mono (fun i hi => hi.imp id (fun e => ⟨e.1, Nat.lt_of_lt_of_le e.2 k3.size⟩)) (HS.out.inn.ext (Nat.le_trans HK2.out.size k3.size)), HK2.out.trans k3.none_⟩
      · have HW := Lib.hid (show R.1.wr ≠ -1 by rw [hwr]; exact hw)
        clear ha hR hT h0 hc hwr hw
        go_enter Tryz.func32, Tryz.ntmps32
        go_wp2_with fail
        refine HC.out.mono ?_
        rintro e w2 ⟨rfl, hS2, k2⟩
        have HH := sheld hS2
        rw [decide_eq_true HW.out] at HH
        have HHH := Lib.hid HH
        have HS2 := Lib.hid hS2
        have HK2 := Lib.hid k2
        clear hS2 k2 HH
        go_wp2_with fail
        refine HHH.out.mono ?_
        rintro e w3 ⟨rfl, hw⟩
        obtain rfl : w2 = w3 := hw.symm
        go_wp2_with fail
        go_ret2
        rw [HA.out]
        have k3 : Keeps (fun _ => False) w2 (w2.alloc (.cells #[.int .i64 who, .int .i64 1] 165)) := (Keeps.refl _ _).alloc _
        refine ⟨_, rfl, (OwnS.one (R := shiftR) (size := 2) (x := (who, 1)) w2 165 rfl).moreS HK2.out.size, (HS2.out.keeps k3 (fun _ _ h => h)).mono (fun i hi => hi.imp id (fun e => ⟨e.1, Nat.lt_of_lt_of_le e.2 k3.size⟩)) (HS.out.inn.ext (Nat.le_trans HK2.out.size k3.size)), HK2.out.trans k3.none_⟩
  · have ha := come_no (s := s) (who := who) (lvl := lvl) (by rw [← hR]; exact h0)
    rw [← hT, ← hR] at ha
    have HA := Lib.hid ha
    obtain ⟨c, hcc⟩ : ∃ c, c = R.2.2 := ⟨_, rfl⟩
    rw [← hcc] at HC h0
    have HCC := Lib.hid hcc
    have hne : (c != 0) = true := by simpa using h0
    clear ha hR hT h0 hcc
    go_enter Tryz.func32, Tryz.ntmps32
    go_wp2_with fail
    refine HC.out.mono ?_
    rintro e w2 ⟨rfl, hS2, k2⟩
    have HS2 := Lib.hid hS2
    have HK2 := Lib.hid k2
    clear hS2 k2
    go_wp2_with fail
    go_ret2
    rw [HA.out.1, ← HCC.out, HA.out.2.1]
    exact ⟨_, rfl, OwnS.none_, HS2.out, HK2.out⟩
end
end Go.Proofs.YtkmpdobojgiegaaGreatDoor

/-
  seat: Leave.
-/
namespace Go.Proofs.YtkmpdobojgiegaaGreatDoor
open Go.RowKit

/-- a seat's blocks, whatever holds of who is there -/
structure SeatR (w : World) (F : Nat → Prop) (sb : Nat) (s : Sea) (v : Value) (q : Nat) : Prop where
  top : Blk w sb 154 (seatC v s q)
  row : OwnS mbrR 2 w 0 170 v s.l
  frow : ∀ i, v.ownBlock = some i → F i
  que : QueAt w (Fq F sb v) q s.most s.wait
  fs : F sb
  inn : In F w
section
variable {w w' : World} {F G S : Nat → Prop} {sb : Nat} {s : Sea} {v : Value} {q : Nat}
theorem SeatR.keeps (h : SeatR w F sb s v q) (k : Keeps S w w') (hS : ∀ i, F i → ¬ S i) : SeatR w' F sb s v q :=
  ⟨h.top.keeps k (hS _ h.fs), h.row.far k (fun i hi => hS _ (h.frow i hi)), h.frow, h.que.keeps k (fun i hi => hS i hi.1), h.fs, h.inn.later k⟩
theorem SeatR.queued (h : SeatR w F sb s v q) (k : Keeps (Fq F sb v) w w') {l : List Int} (hq : QueAt w' (Fq F sb v) q s.most l) : SeatR w' F sb { s with wait := l } v q :=
  ⟨h.top.keeps k (fun e => e.2.1 rfl), h.row.far k (fun _ hi e => e.2.2 hi), h.frow, hq, h.fs, h.inn.later k⟩
theorem SeatR.wrote (h : SeatR w F sb s v q) (x : Int) : SeatR (w.setCell ⟨sb, 2, none⟩ (.int .i64 x)) F sb { s with wr := x } v q ∧ Keeps (fun i => i = sb) w (w.setCell ⟨sb, 2, none⟩ (.int .i64 x)) := by
  have k : Keeps (fun i => i = sb) w (w.setCell ⟨sb, 2, none⟩ (.int .i64 x)) := (Keeps.refl (fun i => i = sb) w).setCell (p := ⟨sb, 2, none⟩) (fun _ => rfl) _
  exact ⟨⟨h.top.set_ 2 _, h.row.far k (fun i hi e => by obtain ⟨cs, hb⟩ := h.row.ownBlk i hi; exact Blk.ne_ hb h.top (by decide) e), h.frow, h.que.keeps k (fun i hi => hi.2.1), h.fs, h.inn.later k⟩, k⟩
theorem SeatR.cells (h : SeatR w F sb s v q) : (w.cell? ⟨sb, 0, none⟩ = some v ∧ w.cell? ⟨sb, 1, none⟩ = some (.int .i64 s.most) ∧ w.cell? ⟨sb, 2, none⟩ = some (.int .i64 s.wr) ∧ w.cell? ⟨sb, 3, none⟩ = some (.iface 206 (.pointer (some ⟨q, 0, none⟩)))) ∧
    w.frozen? ⟨sb, 0, none⟩ = false ∧ w.frozen? ⟨sb, 2, none⟩ = false := ⟨⟨h.top.cell 0, h.top.cell 1, h.top.cell 2, h.top.cell 3⟩, h.top.frozen 0, h.top.frozen 2⟩
end
end Go.Proofs.YtkmpdobojgiegaaGreatDoor

/-
  seat: New, List.
-/
namespace Go.Proofs.YtkmpdobojgiegaaGreatDoor
open Go.RowKit

section
variable {w w' : World} {F G S : Nat → Prop} {sb : Nat} {s : Sea} {v : Value} {q : Nat}
set_option maxRecDepth 100000 in
theorem snew_seat (w : World) (most : Int) (hm : 1 ≤ most ∧ most ≤ 4096) : Calls Tryz.prog 43 #[.int .i64 most] w fun e w' => ∃ sb, e = .returned (.tuple #[.pointer (some ⟨sb, 0, none⟩), .int .i64 0]) ∧ SeatAt w' (Ext (fun _ => False) w w') sb (Sea.new most) ∧ Keeps (fun _ => False) w w' := by
  have HQ := Lib.hid (qnew w most hm)
  have HM := Lib.hid hm
  clear hm
  go_enter Tryz.func43, Tryz.ntmps43
  go_wp2_with fail
  refine HQ.out.mono ?_
  rintro e w2 ⟨rfl, hq, k2⟩
  obtain ⟨q, hqq⟩ : ∃ q, q = w.heap.size := ⟨_, rfl⟩
  rw [← hqq] at hq ⊢
  have HQ2 := Lib.hid hq
  have HK2 := Lib.hid k2
  clear hq k2 hqq
  go_wp2_with fail
  go_ret2
  have kA : Keeps (fun _ => False) w2 (w2.alloc (.cells (seatC (.slice none 0 0) (Sea.new most) q) 154)) := (Keeps.refl _ _).alloc _
  have hsz := HK2.out.size
  have hsA : (w2.alloc (.cells (seatC (.slice none 0 0) (Sea.new most) q) 154)).heap.size = w2.heap.size + 1 := by simp
  refine ⟨_, rfl, ⟨_, q, ⟨Blk.new _ _ _, OwnS.none_, by simp [Value.ownBlock], ?_, .inr ⟨hsz, ?_⟩, ?_, SeaOk.new HM.out⟩⟩, HK2.out.trans kA⟩
  · refine (HQ2.out.keeps kA (fun _ _ h => h)).mono (fun i hi => ?_)
    rcases hi with hi | hi
    · exact hi.elim
    · refine ⟨.inr ⟨hi.1, ?_⟩, fun e => by omega, by simp [Value.ownBlock]⟩
      have h2 := hi.2
      have := kA.size
      exact Nat.lt_of_lt_of_le h2 this
  · show w2.heap.size < (w2.alloc (.cells (seatC (.slice none 0 0) (Sea.new most) q) 154)).heap.size
    omega
  · exact fun i hi => hi.elim (fun h => h.elim) (·.2)
set_option maxRecDepth 100000 in
theorem snew_seat_no (w : World) (most : Int) (hm : most < 1 ∨ 4096 < most) : Calls Tryz.prog 43 #[.int .i64 most] w fun e w' => e = .returned (.tuple #[.pointer none, .int .i64 2]) ∧ w' = w := by
  have HQ := Lib.hid (qnew_no w most hm)
  clear hm
  go_enter Tryz.func43, Tryz.ntmps43
  go_wp2_with fail
  refine HQ.out.mono ?_
  rintro e w2 ⟨rfl, hw⟩
  obtain rfl : w = w2 := hw.symm
  go_wp2_with fail
  go_ret2
  exact ⟨rfl, rfl⟩
theorem intR_one {x : Int} : ∀ u ∈ intR x, u.oneCell' = true := by intro u hu; simp [intR] at hu; subst hu; rfl
theorem list_take {l : List Mbr} {i : Nat} {m : Mbr} (h : l[i]? = some m) : (l.map Mbr.id).take (i + 1) = (l.map Mbr.id).take i ++ [m.id] := by
  have h2 : (l.map Mbr.id)[i]? = some m.id := by rw [List.getElem?_map, h]; rfl
  obtain ⟨hi, e⟩ := List.getElem?_eq_some_iff.1 h2
  rw [List.take_succ_eq_append_getElem hi, e]
set_option maxRecDepth 100000 in
theorem slist (h : SeatAt w F sb s) : Calls Tryz.prog 104 #[.pointer (some ⟨sb, 0, none⟩)] w fun e w' => ∃ o, e = .returned o ∧ OwnS intR 1 w' w.heap.size 3 o (listS s) ∧ Keeps (fun _ => False) w w' := by
  have HM := Lib.hid (smade h)
  obtain ⟨v, q, h⟩ := h
  obtain ⟨⟨c0, c1, c2, c3⟩, -⟩ := h.cells
  obtain ⟨a, c, rfl, hs⟩ := h.row.sla mbrR_len
  obtain ⟨n, hn⟩ : ∃ n, n = s.l.length := ⟨_, rfl⟩
  have hn2 : n ≤ 4096 := by have := h.len; omega
  rw [← hn] at hs c0
  have HSL := Lib.hid hs
  have HLN := Lib.hid hn
  obtain ⟨L, hL⟩ : ∃ L, L = listS s := ⟨_, rfl⟩
  rw [← hL]
  have HL := Lib.hid hL
  have HLL := Lib.hid (show L.length = n from by rw [hL, hn]; unfold listS; exact List.length_map _)
  clear h hs hn c1 c2 c3 hL
  go_enter Tryz.func104, Tryz.ntmps104
  go_wp2_with fail
  refine HM.out.mono ?_
  rintro e w2 ⟨rfl, hw⟩
  obtain rfl : w = w2 := hw.symm
  go_wp2_with fail
  go_loopw [3, 14] (fun u3 u14 wr => ∃ i : Nat, u14 = .int .i64 i ∧ i ≤ n ∧ Hid (OwnS intR 1 wr w.heap.size 3 u3 (L.take i) ∧ Keeps (fun _ => False) w wr)) (fun _ u14 _ => n - (intOf u14).toNat)
  case atStart => exact ⟨0, rfl, Nat.zero_le _, Lib.hid ⟨by rw [List.take_zero]; exact OwnS.none_, Keeps.refl _ _⟩⟩
  case round =>
    obtain ⟨i, rfl, hi, HI⟩ := hrel
    have hK := HI.out.2
    by_cases hlt : i < n
    · obtain ⟨x, g, off, hx, rfl, hg, y0, y1⟩ := mbr_at (HSL.out.keeps hK (fun _ _ => id)) hlt
      have HX := Lib.hid hx
      have HKK := Lib.hid hK
      have HO := Lib.hid HI.out.1
      have HT := Lib.hid (show L.take (i + 1) = L.take i ++ [x.id] from by rw [HL.out]; exact list_take hx)
      have HTL := Lib.hid (show (L.take i).length ≤ 17179869184 from by rw [List.length_take]; omega)
      have HOD := Lib.hid (fun o1 o2 => HO.out.far (w' := (wr.alloc o1).alloc o2) (((Keeps.refl (fun _ => False) _).alloc o1).alloc o2) (fun _ _ h => h))
      have HSZ := Lib.hid hK.size
      clear hx hK HI
      obtain ⟨a3, c3, rfl⟩ := HO.out.sl
      obtain ⟨n3, hn3⟩ : ∃ n3, n3 = (L.take i).length := ⟨_, rfl⟩
      rw [← hn3] at HO HOD ⊢
      clear hn3
      go_wp2_with ((with_reducible show wpList _ _ _ (⟨some 22, _, _, _, _, _⟩ :: _) _ _); go_must (refine wpList_append_st intR 1 intR_len (by decide) rfl (.tmp 18) (.tmp 21) 38 rfl w.heap.size 3 (.int .i64 0) 8 Tryz.underlying38 (by kernel_rfl) rfl (by decide) (.slice a3 n3 c3) (L.take i) rfl (HOD.out _ _) _ _ x.id rfl (Blk.newAt (by simp)) intR_one HTL.out (by have := HSZ.out; simp; omega) ?_; intro v9 w9 hO9 k9; have kN : Keeps (fun _ => False) w w9 := ((HKK.out.alloc _).alloc _).and_ k9 (fun i hi e => by omega); obtain ⟨a9, c9, rfl⟩ := hO9.sl; obtain ⟨n9, hn9⟩ : ∃ n9, n9 = (L.take i ++ [x.id]).length := ⟨_, rfl⟩; rw [← hn9] at hO9 ⊢; have HO9 := Lib.hid hO9; have HK9 := Lib.hid kN; clear hO9 k9 kN hn9))
      go_roundw
      case rel => exact ⟨i + 1, by go_num, by omega, Lib.hid ⟨by rw [HT.out]; exact HO9.out, HK9.out⟩⟩
      case measure => simp [intOf] <;> omega
    · have hie : i = n := by omega
      subst hie
      have HE := Lib.hid (show L.take i = L from List.take_of_length_le (by rw [HLL.out]; exact Nat.le_refl _))
      have HO := Lib.hid HI.out.1
      have HKK := Lib.hid hK
      clear HI hK
      go_wp2_with fail
      go_ret
      rw [← HE.out]
      exact ⟨_, rfl, HO.out, HKK.out⟩
end
end Go.Proofs.YtkmpdobojgiegaaGreatDoor

/-
  What holds of a line stays, whatever befalls it. No program in sight.
-/
namespace Go.Proofs.YtkmpdobojgiegaaGreatDoor
open Go.RowKit

theorem ruleP {b c j : Int} : ruleOk b c j = true ↔ (1 ≤ b ∧ b ≤ 3600 ∧ b ≤ c ∧ c ≤ 86400 ∧ 0 ≤ j ∧ j ≤ 3600) := by unfold ruleOk; simp; omega
theorem LnOk.new {b c j : Int} {first : List Stp} (hr : ruleOk b c j = true) (hf : (∀ x ∈ first, rightS x = true) ∧ sumS first ≤ 1000000 ∧ first.length ≤ 255) : LnOk (Ln.new b c j first) :=
  ⟨hr, ⟨by show (0 : Int) ≤ 0; omega, by show (0 : Int) ≤ 5; omega⟩, Nat.zero_le _, hf, fun h => by rcases h with h | h <;> (have h : (0 : Int) = _ := h; omega), fun _ _ => ⟨rfl, rfl⟩, Nat.zero_le _, Nat.zero_le _, fun h => by have h : (0 : Int) = 1 := h; omega⟩
theorem failed_n (m : Ln) (now r : Int) : (failedL m now r).n ≤ m.n + 1 := by
  unfold failedL
  simp only
  split <;> omega
theorem LnOk.failed {m : Ln} (h : LnOk m) (hn : m.n ≤ 1099511627775) {now : Int} (hnow : 0 ≤ now) (r : Int) : LnOk (failedL m now r) := by
  obtain ⟨a1, a2, a3, a4, a5, a6⟩ := ruleP.1 h.rule
  have hl := lowW_le a3 a1 m.n
  have hm := Int.emod_nonneg r (show m.jit + 1 ≠ 0 by omega)
  refine ⟨h.rule, ⟨by show (0 : Int) ≤ 1; omega, by show (1 : Int) ≤ 5; omega⟩, ?_, h.first, fun hs => ?_, fun _ _ => ⟨rfl, rfl⟩, Nat.zero_le _, Nat.zero_le _, fun _ => ?_⟩
  · have := failed_n m now r; omega
  · have hs : (1 : Int) = 3 ∨ (1 : Int) = 5 := hs; omega
  · unfold failedL
    simp only
    split
    · exact ⟨by omega, by assumption⟩
    · unfold tickMax; omega
theorem LnOk.goOn {m : Ln} {now : Int} (hr : ruleOk m.base m.cap m.jit = true) (hn : m.n ≤ 1099511627776) (hf : (∀ x ∈ m.first, rightS x = true) ∧ sumS m.first ≤ 1000000 ∧ m.first.length ≤ 255) (hs : m.st = 3 ∨ m.st = 5) (hok : StpsOk m.l m.start) (h1 : m.start - 1 ≤ now) (h2 : now ≤ tickMax) (hh : m.held.length ≤ 4096) (hl : m.l.length ≤ 1048576) : LnOk (goOnL m now).1 := by
  unfold goOnL
  split
  · exact ⟨hr, ⟨by show (0 : Int) ≤ 4; omega, by show (4 : Int) ≤ 5; omega⟩, hn, hf, fun h => by rcases h with h | h <;> (have h : (4 : Int) = _ := h; omega), fun _ _ => ⟨rfl, rfl⟩, Nat.zero_le _, Nat.zero_le _, fun h => by have h : (4 : Int) = 1 := h; omega⟩
  · rename_i hne
    refine ⟨hr, ?_, hn, hf, fun _ => ⟨hok, hne, h1, h2⟩, fun a b => ?_, hh, hl, fun h => ?_⟩
    · show 0 ≤ m.st ∧ m.st ≤ 5; omega
    · exact absurd hs (fun e => e.elim a b)
    · have h : m.st = 1 := h; omega
theorem lateP_no {now : Int} (h : ¬ lateP now = true) : 0 ≤ now ∧ now ≤ 549755813888 := by unfold lateP at h; simp at h; omega
theorem LnOk.start {m : Ln} (h : LnOk m) : LnOk (startL m).1 := by
  unfold startL
  split
  · rename_i h0
    have hi := h.idle (by omega) (by omega)
    exact ⟨h.rule, ⟨by show (0 : Int) ≤ 2; omega, by show (2 : Int) ≤ 5; omega⟩, Nat.zero_le _, h.first, fun h => by rcases h with h | h <;> (have h : (2 : Int) = _ := h; omega), fun _ _ => hi, h.held, h.len, fun h => by have h : (2 : Int) = 1 := h; omega⟩
  · exact h
theorem LnOk.opened {m : Ln} (h : LnOk m) (hn : m.n ≤ 1099511627775) (now r : Int) (ok : Bool) : LnOk (openedL m now ok r).1 := by
  unfold openedL
  split
  · exact h
  · rename_i hc
    have hnow := lateP_no (fun e => hc (.inr e))
    split
    · have hst : m.st = 2 := by
        by_cases e : m.st = 2
        · exact e
        · exact absurd (.inl e) hc
      have hi := h.idle (by omega) (by omega)
      refine LnOk.goOn (m := { m with n := 0, st := 3, l := m.first, start := now, done := now - 1 }) h.rule (Nat.zero_le _) h.first (.inl rfl) ⟨h.first.1, by show 0 ≤ now; omega, ?_⟩ (by show now - 1 ≤ now; omega) (by unfold tickMax; omega) h.held (by have := h.first.2.2; show m.first.length ≤ 1048576; omega)
      have := h.first.2.1
      show now + sumS m.first ≤ tickMax
      unfold tickMax
      omega
    · exact h.failed hn hnow.1 r
theorem LnOk.lost {m : Ln} (h : LnOk m) (hn : m.n ≤ 1099511627775) (now r : Int) : LnOk (lostL m now r).1 := by
  unfold lostL
  split
  · exact h
  · rename_i hc
    exact h.failed hn (lateP_no (fun e => hc (.inr e))).1 r
theorem LnOk.send {m : Ln} (h : LnOk m) (s : List UInt8) : LnOk (sendL m s).1 := by
  unfold sendL
  split
  · exact h
  · split
    · exact h
    · rename_i h4 hc
      have hon : m.st = 3 ∨ m.st = 5 := by
        by_cases hh : m.st = 3 ∨ m.st = 5
        · exact hh
        · exact absurd (.inl ⟨fun e => hh (.inl e), fun e => hh (.inr e)⟩) hc
      refine ⟨h.rule, h.st, h.n, h.first, h.run, fun a b => absurd hon (fun e => e.elim a b), ?_, h.len, h.at_⟩
      show (m.held ++ s).length ≤ 4096
      rw [List.length_append]
      have : ¬ 4096 < m.held.length + s.length := fun e => hc (.inr e)
      omega
/-! how often it failed: one time more an act at most -/
theorem goOn_n (m : Ln) (now : Int) : (goOnL m now).1.n = m.n := by unfold goOnL; split <;> rfl
theorem opened_n (m : Ln) (now r : Int) (ok : Bool) : (openedL m now ok r).1.n ≤ m.n + 1 := by
  unfold openedL
  split
  · exact Nat.le_succ _
  · split
    · rw [goOn_n]; exact Nat.zero_le _
    · exact failed_n m now r
end Go.Proofs.YtkmpdobojgiegaaGreatDoor

/-
  Break sequences, plainly: the steps of a text that is one may be, are not many, and end soon. No program in sight.
-/
namespace Go.Proofs.YtkmpdobojgiegaaGreatDoor
open Go.RowKit

theorem digN_lt {c : UInt8} {a : Nat} (h : digN c = some a) : a < 10 := by
  unfold digN at h
  split at h
  · injection h; omega
  · cases h
theorem two_le {b : Nat} {f : UInt8 → Option Nat} (hf : ∀ c a, f c = some a → a < b) {l : List UInt8} {n : Nat} {r : List UInt8} (h : two b f l = some (n, r)) : n ≤ b * (b - 1) + (b - 1) := by
  unfold two at h
  split at h
  · split at h
    · rename_i x y r' a d h1 h2
      injection h with h
      injection h with h _
      have k1 := hf _ _ h1
      have k2 := hf _ _ h2
      have := Nat.mul_le_mul_left b (show a ≤ b - 1 by omega)
      omega
    · cases h
  · cases h
theorem rightS_1 {s : List UInt8} (h : s ≠ []) : rightS ⟨1, s, 0⟩ = true := rightS_iff.2 (.inl ⟨rfl, h, rfl⟩)
theorem rightS_2 {n : Int} (h : 0 < n) : rightS ⟨2, [], n⟩ = true := rightS_iff.2 (.inr (.inl ⟨rfl, rfl, h⟩))
theorem rightS_3 : rightS ⟨3, [], 0⟩ = true := rightS_iff.2 (.inr (.inr ⟨rfl, rfl, rfl⟩))
theorem escP_ok {l : List UInt8} {x : Stp} {n : Nat} (h : escP l = some (x, n)) : rightS x = true ∧ 0 ≤ x.n ∧ x.n ≤ 99 := by
  have one : ∀ {s : List UInt8} {m : Nat}, s ≠ [] → some ((⟨1, s, 0⟩ : Stp), m) = some (x, n) → rightS x = true ∧ 0 ≤ x.n ∧ x.n ≤ 99 := fun hs e => by
    injection e with e; injection e with e _; subst e; exact ⟨rightS_1 hs, by simp, by simp⟩
  unfold escP at h
  split at h
  · cases h
  · repeat' split at h
    all_goals first
      | exact one (by simp) h
      | cases h; done
      | (injection h with h; injection h with h _; subst h; exact ⟨rightS_2 (by decide), by simp, by simp⟩)
      | (injection h with h; injection h with h _; subst h; exact ⟨rightS_3, by simp, by simp⟩)
      | skip
    rename_i n' _ h2 h3
    have := two_le (fun c a => digN_lt) h2
    injection h with h; injection h with h _; subst h
    exact ⟨rightS_2 (by omega), by show (0 : Int) ≤ n'; omega, by show (n' : Int) ≤ 99; omega⟩
theorem stepP_ok {l : List UInt8} {x : Stp} {n : Nat} (h : stepP l = some (x, n)) : rightS x = true ∧ 0 ≤ x.n ∧ x.n ≤ 99 := by
  unfold stepP at h
  split at h
  · cases h
  · split at h
    · exact escP_ok h
    · split at h
      · cases h
      · injection h with h; injection h with h _; subst h; exact ⟨rightS_1 (by simp), by simp, by simp⟩
theorem sumS_app (a b : List Stp) : sumS (a ++ b) = sumS a + sumS b := by
  induction a with
  | nil => simp [sumS]
  | cons x a ih => rw [List.cons_append, sumS, sumS, ih]; omega
theorem pushP_ok {l : List Stp} {x : Stp} (h : ∀ y ∈ l, rightS y = true) (hx : rightS x = true) : (∀ y ∈ pushP l x, rightS y = true) ∧ sumS (pushP l x) = sumS l + x.n ∧ (pushP l x).length ≤ l.length + 1 := by
  unfold pushP
  split
  · rename_i y hy
    have hl : l = l.dropLast ++ [y] := by
      have hne : l ≠ [] := fun e => by rw [e] at hy; cases hy
      have := List.dropLast_concat_getLast hne
      rw [List.getLast?_eq_some_getLast hne] at hy
      injection hy with hy
      rw [← hy]; exact this.symm
    have hyl : y ∈ l := by rw [hl]; simp
    split
    · rename_i hk
      have h1 := h y hyl
      refine ⟨fun z hz => ?_, ?_, ?_⟩
      · rcases List.mem_append.1 hz with hz | hz
        · exact h z (List.dropLast_subset l hz)
        · rw [List.mem_singleton] at hz
          subst hz
          rcases rightS_iff.1 h1 with ⟨a, b, c⟩ | ⟨a, b, c⟩ | ⟨a, b, c⟩
          · rcases rightS_iff.1 hx with ⟨a', b', c'⟩ | ⟨a', b', c'⟩ | ⟨a', b', c'⟩
            · exact rightS_iff.2 (.inl ⟨a, by simp [b], by show y.n + x.n = 0; omega⟩)
            · omega
            · omega
          · rcases rightS_iff.1 hx with ⟨a', b', c'⟩ | ⟨a', b', c'⟩ | ⟨a', b', c'⟩
            · omega
            · exact rightS_iff.2 (.inr (.inl ⟨a, by simp [b, b'], by show 0 < y.n + x.n; omega⟩))
            · omega
          · omega
      · have e := congrArg sumS hl
        rw [sumS_app] at e
        rw [sumS_app, e]
        simp only [sumS]
        omega
      · have e := congrArg List.length hl
        simp only [List.length_append, List.length_cons, List.length_nil] at e ⊢
        omega
    · refine ⟨fun z hz => ?_, ?_, ?_⟩
      · rcases List.mem_append.1 hz with hz | hz
        · exact h z hz
        · rw [List.mem_singleton] at hz; subst hz; exact hx
      · rw [sumS_app]; simp [sumS]
      · simp
  · rename_i hn
    have : l = [] := by cases l with
      | nil => rfl
      | cons a t => rw [List.getLast?_eq_some_getLast (by simp)] at hn; cases hn
    subst this
    exact ⟨fun z hz => by rw [List.mem_singleton] at hz; subst hz; exact hx, by simp [sumS], by simp⟩
theorem stepsP_ok : ∀ (f : Nat) (out : List Stp) (l : List UInt8) (r : List Stp), stepsP f out l = some r → (∀ y ∈ out, rightS y = true) → (∀ y ∈ r, rightS y = true) ∧ sumS r ≤ sumS out + 99 * f ∧ r.length ≤ out.length + f
  | 0, out, l, r, h, ho => by
    rw [stepsP] at h
    injection h with h; subst h
    exact ⟨ho, by omega, by omega⟩
  | f + 1, out, l, r, h, ho => by
    rw [stepsP] at h
    split at h
    · injection h with h; subst h
      exact ⟨ho, by omega, by omega⟩
    · split at h
      · cases h
      · rename_i x n hx
        obtain ⟨x1, x2, x3⟩ := stepP_ok hx
        obtain ⟨p1, p2, p3⟩ := pushP_ok ho x1
        obtain ⟨q1, q2, q3⟩ := stepsP_ok f _ _ _ h p1
        refine ⟨q1, by omega, by omega⟩
theorem brkP_ok {l : List UInt8} (h : (brkP l).1 = 0) : (∀ x ∈ (brkP l).2, rightS x = true) ∧ sumS (brkP l).2 ≤ 1000000 ∧ (brkP l).2.length ≤ 255 := by
  unfold brkP at h ⊢
  split at h
  · cases h
  · rename_i hl
    rw [if_neg hl]
    cases hs : stepsP l.length [] l with
    | none => rw [hs] at h; cases h
    | some out =>
      obtain ⟨q1, q2, q3⟩ := stepsP_ok _ _ _ _ hs (by simp)
      simp only [sumS, List.length_nil] at q2 q3
      exact ⟨q1, by show sumS out ≤ 1000000; omega, by show out.length ≤ 255; omega⟩
end Go.Proofs.YtkmpdobojgiegaaGreatDoor

/-
  line: Next, out, goOn.
-/
namespace Go.Proofs.YtkmpdobojgiegaaGreatDoor
open Go.RowKit

/-- what holds of a line while a sequence is done -/
structure RunOk (m : Ln) : Prop where
  on : m.st = 3 ∨ m.st = 5
  ok : StpsOk m.l m.start
  len : m.l.length ≤ 1048576
  held : m.held.length ≤ 4096
theorem StpsOk.pos {l : List Stp} {t : Int} (h : StpsOk l t) : ∀ x ∈ l, 0 ≤ x.n := fun x hx => rightS_n (h.right x hx)
theorem due_len (t b now : Int) (l : List Stp) : (dueS t b now l).length ≤ l.length := by
  induction l generalizing t with
  | nil => simp [dueS]
  | cons x l ih =>
    rw [dueS]
    have := ih (t + x.n)
    split <;> simp <;> omega
section
variable {w w' : World} {F G S : Nat → Prop} {lb : Nat} {m : Ln} {wb : Nat} {fv nv hv : Value}
set_option maxRecDepth 100000 in
theorem lout_any (w : World) (x : Stp) : Calls Tryz.prog 110 #[.agg #[.int .i64 x.kind, .string (str x.s), .int .i64 x.n]] w fun e w' => e = .returned (.agg #[.int .i64 (outOf x).1, .string (str (outOf x).2)]) ∧ Keeps (fun _ => False) w w' := by
  obtain ⟨k, s, n⟩ := x
  unfold outOf
  simp only
  by_cases hk : k = 3
  · subst hk
    rw [if_pos rfl]
    go_enter Tryz.func110, Tryz.ntmps110
    go_wp2
    refine ret_cell rfl (w.heap.size + 1) 98 _ _ rfl (Blk.new2 _ _ _ _) Tryz.underlying98 rfl (by kernel_rfl) rfl ⟨rfl, ?_⟩
    (repeat (first | (with_reducible assumption) | (with_reducible exact Keeps.refl _ _) | refine Keeps.drew ?_ | refine Keeps.drewN ?_ _ | refine Keeps.setCell ?_ (by simp) _ | refine Keeps.setRow ?_ (by simp) _ | refine Keeps.alloc ?_ _))
  · rw [if_neg hk]
    have hk2 : (k == 3) = false := by simpa using hk
    go_enter Tryz.func110, Tryz.ntmps110
    go_wp2
    refine ret_cell rfl (w.heap.size + 1) 98 _ _ rfl (Blk.new2 _ _ _ _) Tryz.underlying98 rfl (by kernel_rfl) rfl ⟨rfl, ?_⟩
    (repeat (first | (with_reducible assumption) | (with_reducible exact Keeps.refl _ _) | refine Keeps.drew ?_ | refine Keeps.drewN ?_ _ | refine Keeps.setCell ?_ (by simp) _ | refine Keeps.setRow ?_ (by simp) _ | refine Keeps.alloc ?_ _))
/-- the runner alone has moved on -/
theorem LineV.ran {rb : Nat} {d : Nat} {ov : Bool} {v v' : Value} (h : LineV w F lb m wb fv (.pointer (some ⟨rb, 0, none⟩)) hv) (hr : RunAt w rb m.l m.start d ov v') (k : Keeps (fun i => i = rb) w w') {now : Int} (hR : RunAt w' rb m.l m.start (cntS m.start now m.l) false v) (hF : F rb) (hvF : ∀ i, v.ownBlock = some i → F i) :
    LineV w' F lb { m with done := now } wb fv (.pointer (some ⟨rb, 0, none⟩)) hv := by
  have hne : ∀ {i : Nat} {t : TypeId} {cs : Array Value}, Blk w i t cs → t ≠ 294 → i ≠ rb := fun hb ht e => Blk.ne_ hb hr.1 ht e
  refine ⟨h.top.keeps k (hne h.top (by decide)), Blk.keeps h.wait k (hne h.wait (by decide)), h.first.far k (fun i hi e => ?_), h.ffirst, h.held.keeps k (fun i _ hb e => ?_), h.fheld, ⟨fun _ => ⟨rb, v, rfl, hR, hF, hvF⟩, fun hn => ?_⟩, h.fl, h.fw, h.inn.later k⟩
  · obtain ⟨cs, hb⟩ := h.first.ownBlk i hi; exact hne hb (by decide) e
  · obtain ⟨cs, hb⟩ := hb; exact hne hb (by decide) e
  · have := h.run.2 hn; cases this
/-- .. and whatever it was, it is done -/
theorem LineV.rest_ {rb : Nat} {d : Nat} {ov : Bool} {v' : Value} (h : LineV w F lb m wb fv (.pointer (some ⟨rb, 0, none⟩)) hv) (hr : RunAt w rb m.l m.start d ov v') (k : Keeps (fun i => i = rb) w w') :
    Blk w' lb 129 (lineC wb m.st fv (.pointer (some ⟨rb, 0, none⟩)) m.at_ hv) ∧ WaitB w' wb m.base m.cap m.jit m.n ∧ OwnS stpR 3 w' 0 272 fv m.first ∧ OwnQ w' 5 hv (u8Vs m.held) := by
  have hne : ∀ {i : Nat} {t : TypeId} {cs : Array Value}, Blk w i t cs → t ≠ 294 → i ≠ rb := fun hb ht e => Blk.ne_ hb hr.1 ht e
  refine ⟨h.top.keeps k (hne h.top (by decide)), Blk.keeps h.wait k (hne h.wait (by decide)), h.first.far k (fun i hi e => ?_), h.held.keeps k (fun i _ hb e => ?_)⟩
  · obtain ⟨cs, hb⟩ := h.first.ownBlk i hi; exact hne hb (by decide) e
  · obtain ⟨cs, hb⟩ := hb; exact hne hb (by decide) e
theorem due_max {l : List Stp} {t a b : Int} (h : a ≤ b) : max (cntS t a l) (cntS t b l) = cntS t b l := Nat.max_eq_right (cnt_mono h)
set_option maxRecDepth 100000 in
set_option maxHeartbeats 1000000 in
theorem lgoon (h : LineAt w F lb m) (hk : RunOk m) (now : Int) (hd : m.done ≤ now) : Calls Tryz.prog 129 #[.pointer (some ⟨lb, 0, none⟩), .int .i64 now] w fun e w' => ∃ v, e = .returned v ∧ Acts w F lb v (goOnL m now).2 (goOnL m now).1 w' := by
  have hw := h.inn
  obtain ⟨wb, fv, nv, hv, h⟩ := h
  obtain ⟨⟨c0, c1, c2, c3, c4, c5, c6⟩, -⟩ := h.cells
  obtain ⟨rb, v, rfl, hR, hF1, hF2⟩ := h.run.1 hk.on
  have hS := rstep_any w rb m.l m.start (cntS m.start m.done m.l) false v hR hk.ok hk.len (Nat.le_trans (cntS_le _ _ _) hk.len) now
  rw [out_due hk.ok.pos, due_max hd] at hS
  obtain ⟨due, hdue⟩ : ∃ due, due = dueS m.start m.done now m.l := ⟨_, rfl⟩
  rw [← hdue] at hS
  have hdl : due.length ≤ m.l.length := by rw [hdue]; exact due_len _ _ _ _
  have HS := Lib.hid hS
  have HL := Lib.hid h
  have HDUE := Lib.hid hdue
  have HR := Lib.hid hR
  have HK := Lib.hid hk
  have hdn : due.length ≤ 1048576 := Nat.le_trans hdl hk.len
  have HW := Lib.hid hw
  have HF1 := Lib.hid hF1
  have HF2 := Lib.hid hF2
  clear h hS hdue hdl hR hk hw hF1 hF2 c0 c1 c2 c4 c5 c6
  go_enter Tryz.func129, Tryz.ntmps129
  go_wp2_with fail
  refine HS.out.mono ?_
  rintro e w2 ⟨⟨ov, rfl, hO, hR2⟩, k2⟩
  obtain ⟨a, cap, rfl⟩ := hO.sl
  have kF : Keeps F w w2 := k2.mono fun i _ e => by rw [e]; exact HF1.out
  obtain ⟨N, hN⟩ : ∃ N, N = due.length := ⟨_, rfl⟩
  rw [← hN] at hO hdn ⊢
  have hlb := (HL.out.top.keeps k2 (fun e => Blk.ne_ HL.out.top HR.out.1 (by decide) e))
  have HLB := Lib.hid hlb
  have HO := Lib.hid hO
  have HR2 := Lib.hid hR2
  have HK2 := Lib.hid k2
  have HNN := Lib.hid hN
  clear hO hR2 k2 c3 hlb HS hN
  go_wp2_with fail
  go_loopw [5, 15] (fun u5 u15 wr => ∃ (i : Nat), u15 = .int .i64 i ∧ i ≤ N ∧ Hid (OwnS outR 2 wr w2.heap.size 98 u5 ((due.take i).map outOf) ∧ Keeps (fun _ => False) w2 wr)) (fun _ u15 _ => N - (intOf u15).toNat)
  case atStart => exact ⟨0, rfl, Nat.zero_le _, Lib.hid ⟨OwnS.none_, Keeps.refl _ _⟩⟩
  case round =>
    obtain ⟨i, rfl, hi, HI⟩ := hrel
    rename World => wr
    by_cases hlt : i < N
    · obtain ⟨x, hx⟩ : ∃ x, due[i]? = some x := ⟨_, List.getElem?_eq_getElem (by rw [← HNN.out]; exact hlt)⟩
      have hOr := OwnS.far HO.out HI.out.2 (fun _ _ => id)
      obtain ⟨a2, cap2, hv2, -, -, hp2, hc2⟩ := hOr.shape stpR_len
      obtain ⟨ga, ha2, -, hga, -⟩ := hp2 (by rw [← HNN.out]; omega)
      subst ha2
      injection hv2 with ha2 hv3 hv4
      subst ha2
      clear hv3 hv4
      have x0 : wr.cell? ⟨ga, i * 3, none⟩ = some (.int .i64 x.kind) := (hc2 ga rfl i x 0 _ hx rfl).1
      have x1 : wr.cell? ⟨ga, i * 3 + 1, none⟩ = some (.string (str x.s)) := (hc2 ga rfl i x 1 _ hx rfl).1
      have x2 : wr.cell? ⟨ga, i * 3 + 2, none⟩ = some (.int .i64 x.n) := (hc2 ga rfl i x 2 _ hx rfl).1
      have hrow := HI.out.1
      have hrl : ((due.take i).map outOf).length ≤ 1048576 := by simp; omega
      have htk : (due.take (i + 1)).map outOf = (due.take i).map outOf ++ [outOf x] := by rw [List.take_add_one, hx]; simp
      have hot := fun W => lout_any W x
      obtain ⟨y, hy⟩ : ∃ y, y = outOf x := ⟨_, rfl⟩
      rw [← hy] at htk hot
      obtain ⟨pre, hpre⟩ : ∃ pre, pre = (due.take i).map outOf := ⟨_, rfl⟩
      rw [← hpre] at hrow hrl htk
      obtain ⟨av, cv, rfl⟩ := hrow.sl
      obtain ⟨pn, hpn⟩ : ∃ pn, pn = pre.length := ⟨_, rfl⟩
      rw [← hpn] at hrow hrl ⊢
      have hwr := HI.out.2.size
      have HRW := Lib.hid hrow
      have HTK := Lib.hid htk
      have HOT := Lib.hid hot
      have HPN := Lib.hid hpn
      have c6 := ((HLB.out.keeps HI.out.2 id)).cell 6
      unfold lineC at c6
      simp only [List.getElem?_toArray, List.getElem?_cons_zero, List.getElem?_cons_succ] at c6
      have HC6 := Lib.hid (HLB.out.keeps HI.out.2 id)
      obtain ⟨xk, xs, xn⟩ := x
      obtain ⟨yk, ys⟩ := y
      simp only at x0 x1 x2 hot HOT
      clear hOr hc2 hp2 hx hy hrow htk hot hpn hpre hga HLB
      go_upto_block 1 with (fail)
      go_cut [5] (fun s5 wx => Hid (OwnS outR 2 wx w2.heap.size 98 s5 ((due.take (i + 1)).map outOf) ∧ Keeps (fun _ => False) w2 wx))
      case first =>
        go_wp2_with fail
        obtain ⟨wb2, hwb2⟩ : ∃ wb2, wb2 = wr.alloc (.cells #[.int .i64 xk, .string (str xs), .int .i64 xn] 272) := ⟨_, rfl⟩
        have hxb : Blk wb2 wr.heap.size 272 #[.int .i64 xk, .string (str xs), .int .i64 xn] := by rw [hwb2]; exact Blk.new _ _ _
        have kb : Keeps (fun _ => False) wr wb2 := by rw [hwb2]; (repeat (first | (with_reducible assumption) | (with_reducible exact Keeps.refl _ _) | refine Keeps.drew ?_ | refine Keeps.drewN ?_ _ | refine Keeps.setCell ?_ (by simp) _ | refine Keeps.setRow ?_ (by simp) _ | refine Keeps.alloc ?_ _))
        rw [← hwb2]
        obtain ⟨xb, hxb0⟩ : ∃ xb, xb = wr.heap.size := ⟨_, rfl⟩
        rw [← hxb0] at hxb ⊢
        have c6b := (HC6.out.keeps kb id).cell 6
        unfold lineC at c6b
        simp only [List.getElem?_toArray, List.getElem?_cons_zero, List.getElem?_cons_succ] at c6b
        obtain ⟨y0, y1, y2⟩ := hxb.cells3
        have HXB := Lib.hid hxb
        have HLB2 := Lib.hid (HC6.out.keeps kb id)
        have HRW2 := Lib.hid (OwnS.far HRW.out kb (fun _ _ => id))
        have HKB := Lib.hid (HI.out.2.trans kb)
        have hbx : w2.heap.size ≤ wb2.heap.size := HKB.out.size
        have hbx2 : xb < wb2.heap.size := HXB.out.lt
        have hnx : ∀ i, (Value.slice av pn cv).ownBlock = some i → i ≠ xb ∧ i ≠ lb := fun i hi => by
          obtain ⟨cs, hb⟩ := HRW2.out.ownBlk i hi
          exact ⟨Blk.ne_ hb HXB.out (by decide), Blk.ne_ hb HLB2.out (by decide)⟩
        have HNX := Lib.hid hnx
        clear hwb2 hxb kb hxb0 x0 x1 x2 c6 HRW HC6 HI hnx
        go_region_held3 (fun W => W.cell? ⟨lb, 6, none⟩ = some (.func (.func 110) #[] #[]) ∧ W.cell? ⟨xb, 0, none⟩ = some (.int .i64 xk) ∧ W.cell? ⟨xb, 1, none⟩ = some (.string (str xs)) ∧ W.cell? ⟨xb, 2, none⟩ = some (.int .i64 xn))
          ((first | exact ⟨c6b, y0, y1, y2⟩ | exact ⟨d6, z0, z1, z2⟩ | exact ⟨f6, f0, f1, f2⟩ | exact ⟨g6, g0, g1, g2⟩))
          (first
            | (go_at_call 110; refine (HOT.out _).mono ?_; rintro e w5 ⟨rfl, k5⟩; have k5 : Keeps (fun _ => False) wb2 w5 := k5.from_drew; have hx5 := HXB.out.keeps k5 id; have hl5 := HLB2.out.keeps k5 id; have d6 := hl5.cell 6; have f6 := (hl5.alloc (.cells #[.int .i64 yk, .string (str ys)] 98)).cell 6; unfold lineC at d6 f6; obtain ⟨z0, z1, z2⟩ := hx5.cells3; obtain ⟨f0, f1, f2⟩ := (hx5.alloc (.cells #[.int .i64 yk, .string (str ys)] 98)).cells3; simp only [List.getElem?_toArray, List.getElem?_cons_zero, List.getElem?_cons_succ] at d6 f6; have HK5 := Lib.hid k5; have hz5 := k5.size; have HX5 := Lib.hid hx5; have HL5 := Lib.hid hl5; clear k5 hx5 hl5)
            | (refine step_append_st outR 2 outR_len (by decide) rfl (.tmp 19) (.tmp 26) 53 rfl w2.heap.size 98 (.agg #[.int .i64 0, .string ⟨#[]⟩]) 24 Tryz.underlying53 (by kernel_rfl) rfl (by omega) (.slice av pn cv) pre rfl (OwnS.far (OwnS.far HRW2.out HK5.out (fun _ _ => id)) ((Keeps.refl (fun _ => False) _).alloc _) (fun _ _ => id)) w5.heap.size 1 (yk, ys) rfl (Blk.new _ _ _) (outR_ones _) (by rw [← HPN.out]; omega) (by simp; omega) ?_; intro g7 cap7 w7 O7 k7 hat7; have hl7 := (HL5.out.alloc (.cells #[.int .i64 yk, .string (str ys)] 98)).keeps k7 (fun e => (HNX.out _ e).2 rfl); have hx7 := (HX5.out.alloc (.cells #[.int .i64 yk, .string (str ys)] 98)).keeps k7 (fun e => (HNX.out _ e).1 rfl); have g6 := hl7.cell 6; unfold lineC at g6; obtain ⟨g0, g1, g2⟩ := hx7.cells3; simp only [List.getElem?_toArray, List.getElem?_cons_zero, List.getElem?_cons_succ] at g6; have HO7 := Lib.hid O7; have HK7 := Lib.hid (((HKB.out.trans HK5.out).alloc (.cells #[.int .i64 yk, .string (str ys)] 98)).and_ k7 (fun j hj e => by have := (World.ownsRow.lt HRW2.out j e).1; omega)); clear O7 k7 hat7 hl7 hx7))
        go_wp2_with fail
        go_meet
        case rel => exact Lib.hid ⟨by rw [HTK.out]; exact HO7.out, HK7.out⟩
      case rest =>
        rename World => wc
        have HJ := Lib.hid hcut
        go_wp2_with fail
        go_roundw
        case rel => exact ⟨i + 1, by go_num, by omega, HJ.out⟩
        case measure => simp [intOf]; omega
    · obtain rfl : i = N := by omega
      have htk : due.take i = due := List.take_of_length_le (by rw [← HNN.out]; exact Nat.le_refl _)
      have hout := HI.out.1
      rw [htk] at hout
      have HOUT := Lib.hid hout
      have HKR := Lib.hid HI.out.2
      have hkr2 := HK2.out.trans (HI.out.2.none_ : Keeps (fun i => i = rb) w2 wr)
      have HKK := Lib.hid hkr2
      have hRr := HR2.out.keeps HI.out.2 id (fun _ _ => id)
      have hpos := HK.out.ok.pos
      by_cases hfin : m.start + sumS m.l ≤ now
      · have hov : (false || decide (cntS m.start now m.l = m.l.length) && decide (m.start + sumS m.l ≤ now)) = true := by
          rw [cnt_all hpos hfin]; simp [hfin]
        have hg : goOnL m now = ({ m with done := now, st := 4, l := [], held := [] }, due.map outOf ++ (if m.held = [] then [] else [(3, m.held)])) := by
          unfold goOnL; rw [if_pos ((next_none hpos).2 hfin), HDUE.out]
        rw [hov] at hRr
        have HG := Lib.hid hg
        have HD := Lib.hid (rdone_any wr rb m.l m.start (cntS m.start now m.l) true v hRr)
        obtain ⟨hT, hWt, hFi, hHe⟩ := HL.out.rest_ HR.out HKK.out
        obtain ⟨ha, hc, hhv⟩ := hHe.sl
        rw [u8Vs_len] at hhv
        have hcv := fun W (h : OwnQ W 5 hv (u8Vs m.held)) => run_string_q (P := Tryz.prog) W 126 9 5 hv m.held Tryz.underlying126 Tryz.underlying5 Tryz.underlying9 h
        have c1 := hT.cell 1
        have c3 := hT.cell 3
        have c5 := hT.cell 5
        have f1 := hT.frozen 1
        have f3 := hT.frozen 3
        have f5 := hT.frozen 5
        unfold lineC at c1 c3 c5
        simp only [List.getElem?_toArray, List.getElem?_cons_zero, List.getElem?_cons_succ] at c1 c3 c5
        obtain ⟨H, hH⟩ : ∃ H, H = m.held := ⟨_, rfl⟩
        have hHl : H.length ≤ 4096 := by rw [hH]; exact HK.out.held
        rw [← hH] at hhv hcv hHe hg
        have HT := Lib.hid hT
        have HWT := Lib.hid hWt
        have HFI := Lib.hid hFi
        have HHE := Lib.hid hHe
        have HCV := Lib.hid hcv
        have HGG := Lib.hid hg
        have HHV := Lib.hid hhv
        have hfl := HL.out.fl
        have HFL := Lib.hid HL.out.ffirst
        have hfw := HL.out.fw
        clear hov hg hRr hpos htk hout hkr2 HI hT hWt hFi hHe hcv hH HG hhv
        have kA : ∀ (nv' hv' : Value) W, W = ((wr.setCell ⟨lb, 1, none⟩ (.int .i64 4)).setCell ⟨lb, 3, none⟩ (.pointer none)) → Keeps (fun i => i = lb) wr W ∧ Blk W lb 129 (lineC wb 4 fv (.pointer none) m.at_ hv) := by
          rintro nv' hv' W rfl
          exact ⟨((Keeps.refl (fun i => i = lb) wr).setCell (p := ⟨lb, 1, none⟩) (fun _ => rfl) _).setCell (p := ⟨lb, 3, none⟩) (fun _ => rfl) _, (HT.out.set_ 1 _).set_ 3 _⟩
        have HKA := Lib.hid kA
        clear kA
        rw [HHV.out] at c5
        obtain ⟨hn, hhn⟩ : ∃ hn, hn = H.length := ⟨_, rfl⟩
        have hcw : ∀ W, OwnQ W 5 hv (u8Vs H) → (convert 126 9 (.slice ha hn hc)).run Tryz.prog W = .ok (.string (str H)) W := fun W h => by
          have := HCV.out W h
          rw [HHV.out, ← hhn] at this
          exact this
        rw [← hhn] at c5 hHl
        have HHN := Lib.hid hhn
        have HCW := Lib.hid hcw
        clear hhn hcw HCV
        by_cases hz : hn = 0
        · subst hz
          have hHn : H = [] := List.eq_nil_of_length_eq_zero HHN.out.symm
          have HHn := Lib.hid hHn
          clear hHn
          go_wp2_with (go_at_call 185; refine HD.out.mono ?_; rintro e w5 ⟨rfl, rfl⟩)
          go_ret
          obtain ⟨kW, hbW⟩ := HKA.out .nilIface .nilIface _ rfl
          have kF2 : Keeps F w w5 := HKK.out.mono fun j _ e => by rw [e]; exact HF1.out
          have kF3 := kF2.trans (kW.mono fun j _ e => (by rw [e]; exact hfl : F j))
          have hHH := HHE.out
          rw [HHn.out] at hHH
          rw [HGG.out, HHn.out, if_pos rfl, List.append_nil]
          refine ⟨_, rfl, ?_, ⟨wb, fv, .pointer none, hv, hbW, Blk.keeps HWT.out kW (fun e => Blk.ne_ HWT.out HT.out (by decide) e), HFI.out.far kW (fun i hi e => by obtain ⟨cs, hb⟩ := HFI.out.ownBlk i hi; exact Blk.ne_ hb HT.out (by decide) e), fun i hi => .inl (HFL.out i hi), hHH.keeps kW (fun i _ hb e => by obtain ⟨cs, hb⟩ := hb; exact Blk.ne_ hb HT.out (by decide) e), fun i hi => .inl (HL.out.fheld i hi), RunPart.idle (by simp), .inl hfl, .inl hfw, HW.out.ext kF3.size⟩, kF3⟩
          exact (OwnS.far HOUT.out kW (fun i hi e => by obtain ⟨cs, hb⟩ := HOUT.out.ownBlk i hi; exact Blk.ne_ hb HT.out (by decide) e)).moreS (by have := HK2.out.size; omega)
        · have hz2 : 0 < hn := by omega
          have hHn : ¬ H = [] := fun e => by rw [e] at HHN; exact hz HHN.out
          have HHn := Lib.hid hHn
          clear hHn hz
          go_upto_region 10 with (go_at_call 185; refine HD.out.mono ?_; rintro e w5 ⟨rfl, rfl⟩)
          rename World => wr
          obtain ⟨W, hW⟩ : ∃ W, W = (wr.setCell ⟨lb, 1, none⟩ (.int .i64 4)).setCell ⟨lb, 3, none⟩ (.pointer none) := ⟨_, rfl⟩
          obtain ⟨kW, hbW⟩ := HKA.out .nilIface .nilIface _ hW
          rw [← hW]
          have hrow : OwnS outR 2 W w2.heap.size 98 u5 (due.map outOf) := OwnS.far HOUT.out kW (fun i hi e => by obtain ⟨cs, hb⟩ := HOUT.out.ownBlk i hi; exact Blk.ne_ hb HT.out (by decide) e)
          have hhe : OwnQ W 5 hv (u8Vs H) := HHE.out.keeps kW (fun i _ hb e => by obtain ⟨cs, hb⟩ := hb; exact Blk.ne_ hb HT.out (by decide) e)
          have hcv := HCW.out W hhe
          have q5 := hbW.cell 5
          have g5 := hbW.frozen 5
          unfold lineC at q5
          simp only [List.getElem?_toArray, List.getElem?_cons_zero, List.getElem?_cons_succ] at q5
          rw [HHV.out, ← HHN.out] at q5
          have hzs : w2.heap.size ≤ W.heap.size := Nat.le_trans HKR.out.size kW.size
          have HROW := Lib.hid hrow
          have HHEW := Lib.hid hhe
          have HKW := Lib.hid kW
          have HBW := Lib.hid hbW
          clear hrow hhe kW hbW hW c1 c3 c5 f1 f3 f5
          go_wp2_with (with_reducible show wpList _ _ _ (⟨some 56, _, _, _, _, _⟩ :: _) _ _; go_must (refine wpList_append_st outR 2 outR_len (by decide) rfl (.tmp 48) (.tmp 55) 53 rfl w2.heap.size 98 (.agg #[.int .i64 0, .string ⟨#[]⟩]) 24 Tryz.underlying53 (by kernel_rfl) rfl (by omega) u5 (due.map outOf) rfl (OwnS.far HROW.out ((Keeps.refl (fun _ => False) _).alloc _) (fun _ _ => id)) W.heap.size 1 (3, H) rfl (Blk.new _ _ _) (outR_ones _) (by rw [List.length_map, ← HNN.out]; omega) (by simp; omega) ?_; intro v7 w7 O7 k7; have hl7 := (HBW.out.alloc (.cells #[.int .i64 3, .string (str H)] 98)).keeps k7 (fun e => by obtain ⟨cs, hb⟩ := e.2; exact absurd rfl (Blk.ne_ (HBW.out.alloc _) hb (by decide))); have d5 := hl7.cell 5; have h5 := hl7.frozen 5; unfold lineC at d5; simp only [List.getElem?_toArray, List.getElem?_cons_zero, List.getElem?_cons_succ] at d5; rw [HHV.out, ← HHN.out] at d5; have HO7 := Lib.hid O7; have HK7 := Lib.hid k7; have HL7 := Lib.hid hl7; clear O7 k7 hl7))
          go_ret
          obtain ⟨WE, hWE⟩ : ∃ WE, WE = w7.setCell ⟨lb, 5, none⟩ (.slice none 0 0) := ⟨_, rfl⟩
          have kE : Keeps (fun i => i = lb) w7 WE := by rw [hWE]; exact (Keeps.refl (fun i => i = lb) w7).setCell (p := ⟨lb, 5, none⟩) (fun _ => rfl) _
          have hbE : Blk WE lb 129 (lineC wb 4 fv (.pointer none) m.at_ (.slice none 0 0)) := by rw [hWE]; exact HL7.out.set_ 5 _
          rw [← hWE]
          have kB : Keeps (fun i => w2.heap.size ≤ i ∧ ∃ cs, Blk W i 98 cs) W w7 := by
            have h7 := HK7.out
            refine ((Keeps.refl _ W).alloc (.cells #[.int .i64 3, .string (str H)] 98)).and_ h7 (fun i hi e => ⟨e.1, ?_⟩)
            obtain ⟨cs, hb⟩ := e.2
            exact ⟨cs, (Below.heap_alloc W _ i hi).symm.trans hb⟩
          have kC : Keeps (fun i => i = lb ∨ (w2.heap.size ≤ i ∧ ∃ cs, Blk W i 98 cs)) wr WE := ((HKW.out.mono fun _ _ e => .inl e).and_ (kB.mono fun _ _ e => .inr e) (fun _ _ e => e)).and_ kE (fun i _ e => .inl e)
          have tr : ∀ {g : Nat} {t : TypeId} {cs : Array Value}, Blk wr g t cs → t ≠ 129 → t ≠ 98 → ¬ (g = lb ∨ (w2.heap.size ≤ g ∧ ∃ cs, Blk W g 98 cs)) := fun hb h1 h2 e => by
            have hne : ¬ _ = lb := fun e => Blk.ne_ hb HT.out h1 e
            rcases e with e | ⟨-, cs, e⟩
            · exact hne e
            · exact Blk.ne_ (hb.keeps HKW.out hne) e h2 rfl
          have kF2 : Keeps F w wr := HKK.out.mono fun j _ e => by rw [e]; exact HF1.out
          have hz0 := HK2.out.size
          have kF3 : Keeps F w WE := kF2.and_ kC (fun j hj e => by
            rcases e with e | e
            · rw [e]; exact hfl
            · have := e.1; omega)
          rw [HGG.out, if_neg HHn.out]
          refine ⟨_, rfl, ?_, ⟨wb, fv, .pointer none, .slice none 0 0, hbE, Blk.keeps HWT.out kC (tr HWT.out (by decide) (by decide)), HFI.out.far kC (fun i hi => by obtain ⟨cs, hb⟩ := HFI.out.ownBlk i hi; exact tr hb (by decide) (by decide)), fun i hi => .inl (HFL.out i hi), OwnQ.none_, (fun i hi => by cases hi), RunPart.idle (by simp), .inl hfl, .inl hfw, HW.out.ext kF3.size⟩, kF3⟩
          exact (OwnS.far HO7.out kE (fun i hi e => by obtain ⟨cs, hb⟩ := HO7.out.ownBlk i hi; exact Blk.ne_ hb HL7.out (by decide) e)).moreS (by omega)
      · have hov : (false || decide (cntS m.start now m.l = m.l.length) && decide (m.start + sumS m.l ≤ now)) = false := by simp [hfin]
        have hg : goOnL m now = ({ m with done := now }, due.map outOf) := by
          unfold goOnL; rw [if_neg (fun h => hfin ((next_none hpos).1 h)), HDUE.out]
        rw [hov] at hRr
        have HG := Lib.hid hg
        have HRR := Lib.hid hRr
        have HD := Lib.hid (rdone_any wr rb m.l m.start (cntS m.start now m.l) false v hRr)
        have c3 := (HLB.out.keeps HI.out.2 id).cell 3
        unfold lineC at c3
        simp only [List.getElem?_toArray, List.getElem?_cons_zero, List.getElem?_cons_succ] at c3
        clear hov hg hRr hpos htk hout hkr2 HI
        go_wp2_with (go_at_call 185; refine HD.out.mono ?_; rintro e w5 ⟨rfl, rfl⟩)
        go_ret
        have kF2 : Keeps F w w5 := HKK.out.mono fun j _ e => by rw [e]; exact HF1.out
        rw [HG.out]
        refine ⟨_, rfl, ?_, ⟨wb, fv, .pointer (some ⟨rb, 0, none⟩), hv, (HL.out.ran HR.out HKK.out HRR.out HF1.out HF2.out).mono (fun j hj => .inl hj) (HW.out.ext kF2.size)⟩, kF2⟩
        exact HOUT.out.moreS (by have := HK2.out.size; omega)
end
end Go.Proofs.YtkmpdobojgiegaaGreatDoor

/-
  line: late, failed, begin.
-/
namespace Go.Proofs.YtkmpdobojgiegaaGreatDoor
open Go.RowKit

theorem llate_any (w : World) (now : Int) : Calls Tryz.prog 58 #[.int .i64 now] w fun e w' => e = .returned (.bool (lateP now)) ∧ w' = w := by
  by_cases h : 0 ≤ now ∧ now ≤ 1099511627776
  · have HI := Lib.hid (fun W => calcis_any W now)
    rw [isT_true h] at HI
    by_cases h2 : 549755813888 < now
    · have hl : lateP now = true := by unfold lateP; simp; omega
      rw [hl]
      clear h hl
      go_enter Tryz.func58, Tryz.ntmps58
      go_wp2_with fail
      refine (HI.out _).mono ?_
      rintro e w2 ⟨rfl, rfl⟩
      go_wp2_with fail
      go_ret
      exact ⟨rfl, rfl⟩
    · have hl : lateP now = false := by unfold lateP; simp; omega
      rw [hl]
      clear h hl
      go_enter Tryz.func58, Tryz.ntmps58
      go_wp2_with fail
      refine (HI.out _).mono ?_
      rintro e w2 ⟨rfl, rfl⟩
      go_wp2_with fail
      go_ret
      exact ⟨ret_bool_ (decide_eq_false (by omega)), rfl⟩
  · have HI := Lib.hid (fun W => calcis_any W now)
    rw [isT_false (n := now) (by omega)] at HI
    have hl : lateP now = true := by unfold lateP; simp; omega
    rw [hl]
    clear h hl
    go_enter Tryz.func58, Tryz.ntmps58
    go_wp2_with fail
    refine (HI.out _).mono ?_
    rintro e w2 ⟨rfl, rfl⟩
    go_wp2_with fail
    go_ret
    exact ⟨rfl, rfl⟩
theorem lateP_false {now : Int} (h : lateP now = false) : 0 ≤ now ∧ now ≤ 549755813888 := by
  unfold lateP at h
  simp at h
  omega
section
variable {w w' w1 : World} {F G S : Nat → Prop} {lb : Nat} {m : Ln} {wb : Nat} {fv nv hv : Value}
/-- an act behind another one -/
theorem Acts.after {v : Value} {outs : List OutP} {m' : Ln} (k : Keeps F w w1) (h : Acts w1 (Ext F w w1) lb v outs m' w') : Acts w F lb v outs m' w' := by
  obtain ⟨h1, h2, h3⟩ := h
  have kk : Keeps F w w' := k.more h3 (fun i hi => hi)
  exact ⟨h1.moreS k.size, h2.mono (fun i hi => hi.twice k.size h3.size) (fun i hi => hi.elim (fun hi => h2.inn i (.inl (.inl hi))) (·.2)), kk⟩
/-- the wait alone has changed -/
theorem LineV.waited (h : LineV w F lb m wb fv nv hv) (k : Keeps (fun i => i = wb) w w') {n' : Nat} (hW : WaitB w' wb m.base m.cap m.jit n') : LineV w' F lb { m with n := n' } wb fv nv hv := by
  have hne : ∀ {i : Nat} {t : TypeId} {cs : Array Value}, Blk w i t cs → t ≠ 225 → i ≠ wb := fun hb ht e => Blk.ne_ hb h.wait ht e
  refine ⟨h.top.keeps k (hne h.top (by decide)), hW, h.first.far k (fun i hi e => ?_), h.ffirst, h.held.keeps k (fun i _ hb e => ?_), h.fheld, ⟨fun hs => ?_, h.run.2⟩, h.fl, h.fw, h.inn.later k⟩
  · obtain ⟨cs, hb⟩ := h.first.ownBlk i hi; exact hne hb (by decide) e
  · obtain ⟨cs, hb⟩ := hb; exact hne hb (by decide) e
  · obtain ⟨rb, v, h1, h2, h3, h4⟩ := h.run.1 hs
    exact ⟨rb, v, h1, h2.keeps k (hne h2.1 (by decide)) (fun i hi e => by obtain ⟨cs, hb⟩ := h2.2.ownBlk i hi; exact hne hb (by decide) e), h3, h4⟩
set_option maxRecDepth 100000 in
set_option maxHeartbeats 400000 in
theorem lfailed (h : LineAt w F lb m) (hr : ruleOk m.base m.cap m.jit = true) (hn : m.n ≤ 1099511627775) (now r : Int) (hnow : 0 ≤ now ∧ now ≤ 1099511627776) :
    Calls Tryz.prog 59 #[.pointer (some ⟨lb, 0, none⟩), .int .i64 now, .int .i64 r] w fun e w' => e = .returned (.tuple #[]) ∧ LineAt w' (Ext F w w') lb (failedL m now r) ∧ Keeps F w w' := by
  obtain ⟨wb, fv, nv, hv, h⟩ := h
  obtain ⟨⟨c0, c1, c2, c3, c4, c5, c6⟩, -⟩ := h.cells
  have HF := Lib.hid (bfail w wb m.base m.cap m.jit m.n h.wait hr hn now r hnow)
  have HL := Lib.hid h
  clear h hr hnow c1 c2 c3 c4 c5 c6
  go_enter Tryz.func59, Tryz.ntmps59
  go_wp2_with fail
  refine HF.out.mono ?_
  rintro e w2 ⟨⟨q, n', rfl, hW, hq⟩, k2⟩
  obtain ⟨T, hT⟩ : ∃ T, T = now + lowW m.base m.cap m.n + r % (m.jit + 1) := ⟨_, rfl⟩
  rw [← hT] at hq
  have hV2 := HL.out.waited k2 hW
  have hm : failedL m now r = { m with n := n', at_ := if T ≤ tickMax then T else tickMax, st := 1, l := [], held := [] } := by
    unfold failedL
    rw [← hT]
    unfold tickMax
    rcases hq with ⟨h1, -, h3⟩ | ⟨h1, -, h3⟩
    · rw [if_pos h1, if_pos h1, h3]
    · rw [if_neg (by omega), if_neg (by omega), h3]
  have kF : Keeps F w w2 := k2.mono fun i _ e => by rw [e]; exact HL.out.fw
  have HM := Lib.hid hm
  have HV2 := Lib.hid hV2
  have HKF := Lib.hid kF
  obtain ⟨⟨c0, c1, c2, c3, c4, c5, c6⟩, f1, f3, f4, f5⟩ := hV2.cells
  clear hm hV2 kF hT hW k2 HF
  have fin : ∀ A : Int, A = (if T ≤ tickMax then T else tickMax) → ∀ W, W = (((w2.setCell ⟨lb, 4, none⟩ (.int .i64 A)).setCell ⟨lb, 1, none⟩ (.int .i64 1)).setCell ⟨lb, 3, none⟩ (.pointer none)).setCell ⟨lb, 5, none⟩ (.slice none 0 0) →
      LineAt W (Ext F w W) lb (failedL m now r) ∧ Keeps F w W := by
    rintro A hA W rfl
    have kW : Keeps (fun i => i = lb) w2 ((((w2.setCell ⟨lb, 4, none⟩ (.int .i64 A)).setCell ⟨lb, 1, none⟩ (.int .i64 1)).setCell ⟨lb, 3, none⟩ (.pointer none)).setCell ⟨lb, 5, none⟩ (.slice none 0 0)) :=
      ((((Keeps.refl (fun i => i = lb) w2).setCell (p := ⟨lb, 4, none⟩) (fun _ => rfl) _).setCell (p := ⟨lb, 1, none⟩) (fun _ => rfl) _).setCell (p := ⟨lb, 3, none⟩) (fun _ => rfl) _).setCell (p := ⟨lb, 5, none⟩) (fun _ => rfl) _
    have hb := (((HV2.out.top.set_ 4 (.int .i64 A)).set_ 1 (.int .i64 1)).set_ 3 (.pointer none)).set_ 5 (.slice none 0 0)
    have kF2 := HKF.out.trans (kW.mono fun i _ e => (by rw [e]; exact HL.out.fl : F i))
    rw [HM.out, ← hA]
    exact ⟨⟨wb, fv, .pointer none, .slice none 0 0, (HV2.out.upd kW (m' := { m with n := n', at_ := A, st := 1, l := [], held := [] }) hb ⟨rfl, rfl, rfl, rfl, rfl⟩ OwnQ.none_ (fun i hi => by cases hi) (RunPart.idle (by simp))).mono (fun i hi => .inl hi) (HL.out.inn.ext kF2.size)⟩, kF2⟩
  have HFIN := Lib.hid fin
  clear fin
  obtain ⟨qa, qe⟩ := q
  rcases hq with ⟨h1, h2, h3⟩ | ⟨h1, h2, h3⟩
  · injection h2 with h2 h4
    subst h2 h4
    have hA : qa = (if qa ≤ tickMax then qa else tickMax) := by unfold tickMax; rw [if_pos h1]
    have HA := Lib.hid hA
    clear hA h3
    go_wp2_with fail
    go_end0
    exact ⟨rfl, HFIN.out _ HA.out _ rfl⟩
  · have hq2 : (qe != 0) = true := by simpa using h2
    have hA : (1099511627776 : Int) = (if T ≤ tickMax then T else tickMax) := by unfold tickMax; rw [if_neg (by omega)]
    have HA := Lib.hid hA
    clear hA h3
    go_wp2_with fail
    go_end0
    exact ⟨rfl, HFIN.out _ HA.out _ rfl⟩
end
end Go.Proofs.YtkmpdobojgiegaaGreatDoor

/-
  line: begin, Start, Opened, Lost, Tick, Send, Break.
-/
namespace Go.Proofs.YtkmpdobojgiegaaGreatDoor
open Go.RowKit

section
variable {w w' w1 : World} {F G S : Nat → Prop} {lb : Nat} {m : Ln} {wb : Nat} {fv nv hv : Value}
/-- a sequence that begins -/
def begunL (m : Ln) (st : Int) (ops : List Stp) (now : Int) : Ln := { m with st := st, l := ops, start := now, done := now - 1 }
set_option maxRecDepth 100000 in
set_option maxHeartbeats 400000 in
theorem lbegin (h : LineAt w F lb m) (hh : m.held.length ≤ 4096) (st : Int) (hst : st = 3 ∨ st = 5) (a : Option Addr) (c : Nat) (ops : List Stp) (hl : SlAt stpR 3 w a ops.length ops) (hn : ops.length ≤ 1048576) (now : Int) :
    Calls Tryz.prog 60 #[.pointer (some ⟨lb, 0, none⟩), .int .i64 st, .slice a ops.length c, .int .i64 now] w fun e w' =>
      (checkS ops now = 0 ∧ ∃ v, e = .returned (.tuple #[v, .int .i64 0]) ∧ Acts w F lb v (goOnL (begunL m st ops now) now).2 (goOnL (begunL m st ops now) now).1 w') ∨
      (checkS ops now ≠ 0 ∧ e = .returned (.tuple #[.slice none 0 0, .int .i64 (checkS ops now)]) ∧ Keeps (fun _ => False) w w') := by
  have hin := h.inn
  obtain ⟨wb, fv, nv, hv, h⟩ := h
  have HR := Lib.hid (rnew_any w a c ops hl (by omega) now)
  obtain ⟨n, hnn⟩ : ∃ n, n = ops.length := ⟨_, rfl⟩
  rw [← hnn] at HR ⊢
  have HL := Lib.hid h
  have HIN := Lib.hid hin
  have HN := Lib.hid hnn
  obtain ⟨C, hC⟩ : ∃ C, C = checkS ops now := ⟨_, rfl⟩
  have HC := Lib.hid hC
  rw [← hC]
  clear h hl hin hnn hC
  go_enter Tryz.func60, Tryz.ntmps60
  go_wp2_with fail
  refine HR.out.mono ?_
  rintro e w1 ⟨(⟨rb, v, hc, rfl, hR, hb1, hb2⟩ | ⟨hc, rfl⟩), k1⟩
  · have hV := HL.out.keeps k1 (fun _ _ => id)
    obtain ⟨⟨c0, c1, c2, c3, c4, c5, c6⟩, f1, f3, f4, f5⟩ := hV.cells
    have hlt := hR.lt
    have hok := checkS_ok hc
    have hG : ∀ W, W = (w1.setCell ⟨lb, 1, none⟩ (.int .i64 st)).setCell ⟨lb, 3, none⟩ (.pointer (some ⟨rb, 0, none⟩)) →
        Calls Tryz.prog 129 #[.pointer (some ⟨lb, 0, none⟩), .int .i64 now] W fun e w' => ∃ v, e = .returned v ∧ Acts w F lb v (goOnL (begunL m st ops now) now).2 (goOnL (begunL m st ops now) now).1 w' := by
      rintro W hW
      have kW : Keeps (fun i => i = lb) w1 W := by rw [hW]; exact ((Keeps.refl (fun i => i = lb) w1).setCell (p := ⟨lb, 1, none⟩) (fun _ => rfl) _).setCell (p := ⟨lb, 3, none⟩) (fun _ => rfl) _
      have hbW : Blk W lb 129 (lineC wb st fv (.pointer (some ⟨rb, 0, none⟩)) m.at_ hv) := by rw [hW]; exact (hV.top.set_ 1 (.int .i64 st)).set_ 3 _
      have kF : Keeps F w W := (k1.none_ : Keeps F w w1).trans (kW.mono fun i _ e => by rw [e]; exact HL.out.fl)
      have hsz : W.heap.size = w1.heap.size := by rw [hW]; simp [World.setCell]
      have hRW : RunAt W rb ops now (cntS now (now - 1) ops) false v := by
        rw [cntS_early hok.pos (by omega)]
        exact hR.keeps kW (fun e => Blk.ne_ hR.1 hV.top (by decide) e) (fun i hi e => by obtain ⟨cs, hb⟩ := hR.2.ownBlk i hi; exact Blk.ne_ hb hV.top (by decide) e)
      have hVm := hV.mono (G := Ext F w W) (fun i hi => .inl hi) (fun i hi => hi.elim (fun hf => Nat.lt_of_lt_of_le (HIN.out i hf) k1.size) (fun hn => by omega))
      have hVW : LineV W (Ext F w W) lb (begunL m st ops now) wb fv (.pointer (some ⟨rb, 0, none⟩)) hv :=
        hVm.upd kW hbW ⟨rfl, rfl, rfl, rfl, rfl⟩ (hV.heldK kW) (fun i hi => .inl (HL.out.fheld i hi)) ⟨fun _ => ⟨rb, v, rfl, hRW, .inr ⟨hb1, by omega⟩, fun i hi => .inr ⟨hb2 i hi, by have := hlt.2 i hi; omega⟩⟩, fun hn => absurd hst hn⟩
      refine (lgoon ⟨wb, fv, _, hv, hVW⟩ ⟨hst, hok, hn, hh⟩ now (by show now - 1 ≤ now; omega)).mono ?_
      rintro e w' ⟨v, he, hA⟩
      exact ⟨v, he, hA.after kF⟩
    have HG := Lib.hid hG
    have HC0 := Lib.hid hc
    clear hV hR hb1 hb2 hlt hok hG hc k1
    go_wp2_with fail
    refine (HG.out _ rfl).mono ?_
    rintro e w2 ⟨v2, rfl, hA⟩
    have HA := Lib.hid hA
    clear hA
    go_wp2_with fail
    go_ret2
    exact .inl ⟨by rw [HC.out]; exact HC0.out, _, rfl, HA.out⟩
  · rw [← HC.out] at hc ⊢
    have hc2 : (C != 0) = true := by simpa using hc
    have HC0 := Lib.hid hc
    have HK := Lib.hid k1
    clear hc k1
    go_wp2_with fail
    go_ret2
    exact .inr ⟨HC0.out, rfl, HK.out⟩
end
end Go.Proofs.YtkmpdobojgiegaaGreatDoor

/-
  line: Start, Opened, Lost, Tick, Send, Break.
-/
namespace Go.Proofs.YtkmpdobojgiegaaGreatDoor
open Go.RowKit

theorem chkS_room : ∀ (l : List Stp) (left : Int), (∀ x ∈ l, rightS x = true) → sumS l ≤ left → chkS left l = 0
  | [], _, _, _ => rfl
  | x :: l, left, h, hs => by
    rw [sumS] at hs
    have hx := rightS_n (h x (by simp))
    have hp := sumS_pos l (fun y hy => rightS_n (h y (by simp [hy])))
    rw [chkS, if_pos (h x (by simp)), if_neg (by omega)]
    exact chkS_room l _ (fun y hy => h y (by simp [hy])) (by omega)
theorem checkS_first {m : Ln} (h : LnOk m) {now : Int} (hn : 0 ≤ now ∧ now ≤ 549755813888) : checkS m.first now = 0 := by
  unfold checkS tickMax
  rw [if_neg (by omega)]
  exact chkS_room _ _ h.first.1 (by have := h.first.2.1; omega)
section
variable {w w' w1 : World} {F G S : Nat → Prop} {lb : Nat} {m : Ln} {wb : Nat} {fv nv hv : Value}
theorem Acts.same (h : LineAt w F lb m) (k : Keeps (fun _ => False) w w') : Acts w F lb (.slice none 0 0) [] m w' :=
  ⟨OwnS.none_, (h.keeps k (fun _ _ => id)).mono (fun _ hi => .inl hi) (h.inn.ext k.size), k.none_⟩
theorem OwnS.slat {α : Type} {R : α → List Value} {size : Nat} {e : TypeId} {B : Nat} {v : Value} {xs : List α} (h : OwnS R size w B e v xs) (hR : ∀ x, (R x).length = size) : ∃ a c, v = .slice a xs.length c ∧ SlAt R size w a xs.length xs := by
  obtain ⟨a, c, hv, -, -, h1, h2⟩ := h.shape hR
  refine ⟨a, c, hv, rfl, fun hn => ?_⟩
  obtain ⟨g, rfl, -, hlt, -⟩ := h1 hn
  exact ⟨g, 0, rfl, hlt, fun i x j u hx hu => by have := (h2 g rfl i x j u hx hu).1; simpa using this⟩
set_option maxRecDepth 100000 in
theorem lstart (h : LineAt w F lb m) (hr : ruleOk m.base m.cap m.jit = true) : Calls Tryz.prog 12 #[.pointer (some ⟨lb, 0, none⟩)] w fun e w' => ∃ v, e = .returned v ∧ Acts w F lb v (startL m).2 (startL m).1 w' := by
  have HM := Lib.hid (lmade h)
  have HA := Lib.hid h
  have h' := h
  obtain ⟨wb, fv, nv, hv, h⟩ := h
  obtain ⟨⟨c0, c1, c2, c3, c4, c5, c6⟩, -⟩ := h.cells
  by_cases hs : m.st = 0
  · have hst : startL m = ({ m with n := 0, st := 2 }, [(1, [])]) := by unfold startL; rw [if_pos hs]
    have HS := Lib.hid hst
    have HL := Lib.hid h
    have HG := Lib.hid (bgood w wb m.base m.cap m.jit m.n h.wait hr)
    rw [hs] at c1
    have HZ := Lib.hid hs
    clear h h' hst hr hs c2 c3 c4 c5 c6
    go_enter Tryz.func12, Tryz.ntmps12
    go_wp2_with fail
    refine HM.out.mono ?_
    rintro e w2 ⟨rfl, hw⟩
    obtain rfl : w = w2 := hw.symm
    go_wp2_with fail
    refine HG.out.mono ?_
    rintro e w2 ⟨rfl, hW, k2⟩
    have hV := HL.out.waited k2 hW
    have kF : Keeps F w w2 := k2.mono fun i _ e => by rw [e]; exact HL.out.fw
    have hA2 : LineAt w2 (Ext F w w2) lb { m with n := 0 } := ⟨wb, fv, nv, hv, hV.mono (fun i hi => .inl hi) (HL.out.inn.ext kF.size)⟩
    have HO := Lib.hid (lopen hA2 (by show ¬ (m.st = 3 ∨ m.st = 5); rw [HZ.out]; omega))
    have HKF := Lib.hid kF
    clear hV kF hA2 hW k2 HG c0 c1
    go_wp2_with fail
    refine HO.out.mono ?_
    rintro e w3 ⟨v, rfl, hX⟩
    have HX := Lib.hid hX
    clear hX HO
    go_wp2_with fail
    go_ret
    rw [HS.out]
    exact ⟨_, rfl, HX.out.after HKF.out⟩
  · have hst : startL m = (m, []) := by unfold startL; rw [if_neg hs]
    have HS := Lib.hid hst
    have hs2 : (m.st != 0) = true := by simpa using hs
    obtain ⟨st, hse⟩ : ∃ st, st = m.st := ⟨_, rfl⟩
    rw [← hse] at c1 hs2
    clear h h' hst hr hs hse
    go_enter Tryz.func12, Tryz.ntmps12
    go_wp2_with fail
    refine HM.out.mono ?_
    rintro e w2 ⟨rfl, hw⟩
    obtain rfl : w = w2 := hw.symm
    go_wp2_with fail
    go_ret
    rw [HS.out]
    exact ⟨_, rfl, Acts.same HA.out (Keeps.refl _ _)⟩
end
end Go.Proofs.YtkmpdobojgiegaaGreatDoor

/-
  line: Opened, Tick, Send, Break.
-/
namespace Go.Proofs.YtkmpdobojgiegaaGreatDoor
open Go.RowKit

section
variable {w w' w1 : World} {F G S : Nat → Prop} {lb : Nat} {m : Ln} {wb : Nat} {fv nv hv : Value}
set_option maxRecDepth 100000 in
set_option maxHeartbeats 400000 in
theorem lopened (h : LineAt w F lb m) (hk : LnOk m) (hn : m.n ≤ 1099511627775) (now r : Int) (ok : Bool) : Calls Tryz.prog 13 #[.pointer (some ⟨lb, 0, none⟩), .int .i64 now, .bool ok, .int .i64 r] w fun e w' => ∃ v, e = .returned v ∧ Acts w F lb v (openedL m now ok r).2 (openedL m now ok r).1 w' := by
  have HS := Lib.hid (lstate h)
  have HT := Lib.hid (llate_any w now)
  have HA := Lib.hid h
  by_cases h3 : m.st = 2
  · cases hl : lateP now with
    | true =>
      have hm : openedL m now ok r = (m, []) := by unfold openedL; rw [if_pos (.inr hl)]
      have HM := Lib.hid hm
      rw [hl] at HT
      rw [h3] at HS
      clear h hm hk hl h3
      go_enter Tryz.func13, Tryz.ntmps13
      go_wp2_with fail
      refine HS.out.mono ?_
      rintro e w2 ⟨rfl, hw⟩
      obtain rfl : w = w2 := hw.symm
      go_wp2_with fail
      refine HT.out.mono ?_
      rintro e w2 ⟨rfl, hw⟩
      obtain rfl : w = w2 := hw.symm
      go_wp2_with fail
      go_ret
      rw [HM.out]
      exact ⟨_, rfl, Acts.same HA.out (Keeps.refl _ _)⟩
    | false =>
      have hnow := lateP_false hl
      rw [hl] at HT
      cases ok with
      | false =>
        have hm : openedL m now false r = (failedL m now r, []) := by unfold openedL; rw [if_neg (fun h => h.elim (fun h => h h3) (fun h => by rw [hl] at h; cases h)), if_neg (by simp)]
        have HM := Lib.hid hm
        have HF := Lib.hid (lfailed h hk.rule hn now r (by omega))
        rw [h3] at HS
        clear h hm hk hl h3 hnow
        go_enter Tryz.func13, Tryz.ntmps13
        go_wp2_with fail
        refine HS.out.mono ?_
        rintro e w2 ⟨rfl, hw⟩
        obtain rfl : w = w2 := hw.symm
        go_wp2_with fail
        refine HT.out.mono ?_
        rintro e w2 ⟨rfl, hw⟩
        obtain rfl : w = w2 := hw.symm
        go_wp2_with fail
        refine HF.out.mono ?_
        rintro e w3 ⟨rfl, hA3, k3⟩
        have HA3 := Lib.hid hA3
        have HK3 := Lib.hid k3
        clear hA3 k3
        go_wp2_with fail
        go_ret
        rw [HM.out]
        exact ⟨_, rfl, OwnS.none_, HA3.out, HK3.out⟩
      | true =>
        have hm : openedL m now true r = goOnL (begunL { m with n := 0 } 3 m.first now) now := by unfold openedL; rw [if_neg (fun h => h.elim (fun h => h h3) (fun h => by rw [hl] at h; cases h)), if_pos rfl]; rfl
        have HM := Lib.hid hm
        have hck := checkS_first hk hnow
        have HCK := Lib.hid hck
        have HH := Lib.hid hk
        obtain ⟨wb, fv, nv, hv, h⟩ := h
        obtain ⟨⟨c0, c1, c2, c3, c4, c5, c6⟩, -⟩ := h.cells
        have HL := Lib.hid h
        have HG := Lib.hid (bgood w wb m.base m.cap m.jit m.n h.wait hk.rule)
        have hid0 := hk.idle (by omega) (by omega)
        rw [h3] at HS
        obtain ⟨fa, fc, hfv, -⟩ := h.first.slat stpR_len
        have HFV := Lib.hid hfv
        clear h hm hk hl h3 hnow hck c1 c2 c3 c4 c5 c6 hfv
        go_enter Tryz.func13, Tryz.ntmps13
        go_wp2_with fail
        refine HS.out.mono ?_
        rintro e w2 ⟨rfl, hw⟩
        obtain rfl : w = w2 := hw.symm
        go_wp2_with fail
        refine HT.out.mono ?_
        rintro e w2 ⟨rfl, hw⟩
        obtain rfl : w = w2 := hw.symm
        go_wp2_with fail
        refine HG.out.mono ?_
        rintro e w2 ⟨rfl, hW, k2⟩
        have hV := HL.out.waited k2 hW
        have kF : Keeps F w w2 := k2.mono fun i _ e => by rw [e]; exact HL.out.fw
        have hA2 : LineAt w2 (Ext F w w2) lb { m with n := 0 } := ⟨wb, fv, nv, hv, hV.mono (fun i hi => .inl hi) (HL.out.inn.ext kF.size)⟩
        obtain ⟨⟨c0, c1, c2, c3, c4, c5, c6⟩, -⟩ := hV.cells
        obtain ⟨fa2, fc2, hfv2, hfs⟩ := hV.first.slat stpR_len
        have HB := lbegin hA2 (by show m.held.length ≤ 4096; rw [hid0.2]; simp) 3 (.inl rfl) fa2 fc2 m.first hfs (by have := HH.out.first.2.2; omega) now
        rw [hfv2] at c2
        obtain ⟨fn, hfn⟩ : ∃ fn, fn = m.first.length := ⟨_, rfl⟩
        simp only at c2
        rw [← hfn] at HB c2
        have HBB := Lib.hid HB
        have HKF := Lib.hid kF
        clear hV kF hA2 hW k2 HG c0 c1 c3 c4 c5 c6 HB hfs hfv2 hfn hid0
        go_wp2_with fail
        refine HBB.out.mono ?_
        rintro e w3 (⟨hc, v, rfl, hX⟩ | ⟨hc, rfl, hX⟩)
        · have HX := Lib.hid hX
          clear hX hc
          go_wp2_with fail
          go_ret
          rw [HM.out]
          exact ⟨_, rfl, HX.out.after HKF.out⟩
        · exact absurd HCK.out hc
  · have hm : openedL m now ok r = (m, []) := by unfold openedL; rw [if_pos (.inl h3)]
    have HM := Lib.hid hm
    obtain ⟨st, hse⟩ : ∃ st, st = m.st := ⟨_, rfl⟩
    rw [← hse] at HS h3
    have h3b : (st != 2) = true := by simpa using h3
    clear h hm hk hse h3
    go_enter Tryz.func13, Tryz.ntmps13
    go_wp2_with fail
    refine HS.out.mono ?_
    rintro e w2 ⟨rfl, hw⟩
    obtain rfl : w = w2 := hw.symm
    go_wp2_with fail
    go_ret
    rw [HM.out]
    exact ⟨_, rfl, Acts.same HA.out (Keeps.refl _ _)⟩
end
end Go.Proofs.YtkmpdobojgiegaaGreatDoor

/-
  line: Tick, Send, Break.
-/
namespace Go.Proofs.YtkmpdobojgiegaaGreatDoor
open Go.RowKit

section
variable {w w' w1 : World} {F G S : Nat → Prop} {lb : Nat} {m : Ln} {wb : Nat} {fv nv hv : Value}
end
end Go.Proofs.YtkmpdobojgiegaaGreatDoor

/-
  line: Send.
-/
namespace Go.Proofs.YtkmpdobojgiegaaGreatDoor
open Go.RowKit

section
variable {w w' w1 : World} {F G S : Nat → Prop} {lb : Nat} {m : Ln} {wb : Nat} {fv nv hv : Value}
theorem str_data (s : List UInt8) : (str s).data.toList = s := rfl
set_option maxRecDepth 100000 in
set_option maxHeartbeats 400000 in
theorem lsend (h : LineAt w F lb m) (hk : LnOk m) (s : List UInt8) (hsz : s.length ≤ 1048576) : Calls Tryz.prog 79 #[.pointer (some ⟨lb, 0, none⟩), .string (str s)] w fun e w' =>
    ∃ v, e = .returned (.tuple #[v, .bool (sendL m s).2.2]) ∧ Acts w F lb v (sendL m s).2.1 (sendL m s).1 w' := by
  have HA := Lib.hid h
  have HS := Lib.hid (lstate h)
  by_cases h4 : m.st = 4
  · rw [h4] at HS
    by_cases hs : s = []
    · have hm : sendL m s = (m, [], true) := by unfold sendL; rw [if_pos h4, if_pos hs]
      have HM := Lib.hid hm
      have he : (str s).toList.isEmpty = true := by rw [str_emp]; simp [hs]
      clear h hk hm hs h4
      go_enter Tryz.func79, Tryz.ntmps79
      go_wp2_with fail
      refine HS.out.mono ?_
      rintro e w2 ⟨rfl, hw⟩
      obtain rfl : w = w2 := hw.symm
      go_wp2_with fail
      go_ret2
      rw [HM.out]
      exact ⟨_, rfl, Acts.same HA.out (Keeps.refl _ _)⟩
    · have hm : sendL m s = (m, [(3, s)], true) := by unfold sendL; rw [if_pos h4, if_neg hs]
      have HM := Lib.hid hm
      have he : (str s).toList.isEmpty = false := by rw [str_emp]; simp [hs]
      clear h hk hm hs h4
      go_enter Tryz.func79, Tryz.ntmps79
      go_wp2_with fail
      refine HS.out.mono ?_
      rintro e w2 ⟨rfl, hw⟩
      obtain rfl : w = w2 := hw.symm
      go_wp2_with fail
      go_ret2
      rw [HM.out]
      have hx := Acts.same HA.out (w' := w.alloc (.cells #[.int .i64 3, .string (str s)] 98)) ((Keeps.refl _ _).alloc _)
      exact ⟨_, rfl, OwnS.one (R := outR) (size := 2) (x := (3, s)) w 98 rfl, hx.2⟩
  · by_cases h35 : m.st = 3 ∨ m.st = 5
    · obtain ⟨wb, fv, nv, hv, h⟩ := h
      obtain ⟨⟨c0, c1, c2, c3, c4, c5, c6⟩, f1, f3, f4, f5⟩ := h.cells
      obtain ⟨ha, hc, hhv⟩ := h.held.sl
      rw [u8Vs_len] at hhv
      have hhl := hk.held
      obtain ⟨hn, hhn⟩ : ∃ hn, hn = m.held.length := ⟨_, rfl⟩
      rw [← hhn] at hhv hhl
      by_cases hroom : 4096 < hn + s.length
      · have hm : sendL m s = (m, [], false) := by unfold sendL; rw [if_neg h4, if_pos (.inr (by omega))]
        have HM := Lib.hid hm
        have hi : (4096 : Int) - hn < (str s).size := by rw [str_size]; omega
        rw [hhv] at c5
        obtain ⟨st, hse⟩ : ∃ st, st = m.st := ⟨_, rfl⟩
        rw [← hse] at HS h35 c1
        have hss : (str s).size ≤ 1048576 := by rw [str_size]; exact hsz
        clear h hk hm h4 hse hhv hhn hsz hroom
        rcases h35 with h35 | h35
        all_goals
          subst h35
          go_enter Tryz.func79, Tryz.ntmps79
          go_wp2_with fail
          refine HS.out.mono ?_
          rintro e w2 ⟨rfl, hw⟩
          obtain rfl : w = w2 := hw.symm
          go_wp2_with fail
          go_ret2
          rw [HM.out]
          exact ⟨_, rfl, Acts.same HA.out (Keeps.refl _ _)⟩
      · have hm : sendL m s = ({ m with held := m.held ++ s }, [], true) := by unfold sendL; rw [if_neg h4, if_neg (by rw [← hhn]; intro h; rcases h with h | h; exact h35.elim h.1 h.2; omega)]
        have HM := Lib.hid hm
        have hi : ¬ (4096 : Int) - hn < (str s).size := by rw [str_size]; omega
        have hheld := h.held
        rw [hhv] at c5 hheld
        have HL := Lib.hid h
        have HHE := Lib.hid hheld
        have HHV := Lib.hid hhv
        obtain ⟨st, hse⟩ : ∃ st, st = m.st := ⟨_, rfl⟩
        rw [← hse] at HS c1
        have hst := h35
        rw [← hse] at hst
        have hss : (str s).size ≤ 1048576 := by rw [str_size]; exact hsz
        have hrm : hn + (str s).size ≤ 4096 := by rw [str_size]; omega
        have HHN := Lib.hid hhn
        clear h hk hm h4 hse hhv hhn hsz hroom hheld
        rcases hst with hst | hst
        all_goals
          subst hst
          go_enter Tryz.func79, Tryz.ntmps79
          go_wp2_with fail
          refine HS.out.mono ?_
          rintro e w2 ⟨rfl, hw⟩
          obtain rfl : w = w2 := hw.symm
          go_wp2_with (with_reducible show wpList _ _ _ (⟨some 33, _, _, _, _, _⟩ :: _) _ _; go_must (refine wpList_append_qs rfl (.tmp 31) (.tmp 32) 126 9 rfl 5 Tryz.underlying126 Tryz.underlying9 (by kernel_rfl) (.slice ha hn hc) (u8Vs m.held) rfl HHE.out (str s) rfl (by rw [u8Vs_len, ← HHN.out]; omega) ?_; intro v7 w7 hap; unfold Appended at hap; obtain ⟨O7, k7, hat7⟩ := hap; obtain ⟨a7, c7, rfl⟩ := O7.sl; obtain ⟨N7, hN7⟩ : ∃ N7, N7 = (u8Vs m.held ++ u8Vs (str s).data.toList).length := ⟨_, rfl⟩; rw [← hN7] at O7 hat7 ⊢; clear hN7; have hl7 := HL.out.top.keeps k7 (fun e => by obtain ⟨cs, hb⟩ := HHE.out.row _ e; exact absurd rfl (Blk.ne_ HL.out.top hb (by decide))); have d5 := hl7.cell 5; have g5 := hl7.frozen 5; unfold lineC at d5; simp only [List.getElem?_toArray, List.getElem?_cons_zero, List.getElem?_cons_succ] at d5; rw [HHV.out] at d5; have HO7 := Lib.hid O7; have HK7 := Lib.hid k7; have HL7 := Lib.hid hl7; have HAT := Lib.hid hat7; clear O7 k7 hat7 hl7))
          go_ret2
          rw [HM.out]
          obtain ⟨v7, hv7⟩ : ∃ v7, v7 = Value.slice a7 N7 c7 := ⟨_, rfl⟩
          rw [← hv7] at HO7 HAT ⊢
          obtain ⟨WE, hWE⟩ : ∃ WE, WE = w7.setCell ⟨lb, 5, none⟩ v7 := ⟨_, rfl⟩
          have kE : Keeps (fun i => i = lb) w7 WE := by rw [hWE]; exact (Keeps.refl (fun i => i = lb) w7).setCell (p := ⟨lb, 5, none⟩) (fun _ => rfl) _
          have hbE : Blk WE lb 129 (lineC wb m.st fv nv m.at_ v7) := by rw [hWE]; exact HL7.out.set_ 5 _
          rw [← hWE]
          have kC : Keeps (fun i => i = lb ∨ rowB (.slice ha hn hc) = some i) w WE := (HK7.out.mono fun _ _ e => .inr e).trans (kE.mono fun _ _ e => .inl e)
          have hrowF : ∀ i, rowB (.slice ha hn hc) = some i → F i := fun i hi => HL.out.fheld i (by rw [HHV.out]; exact hi)
          have kF : Keeps F w WE := kC.mono fun i _ e => e.elim (fun e => (by rw [e]; exact HL.out.fl)) (hrowF i)
          have tr : ∀ {g : Nat} {t : TypeId} {cs : Array Value}, Blk w g t cs → t ≠ 129 → t ≠ 5 → ¬ (g = lb ∨ rowB (.slice ha hn hc) = some g) := fun hb h1 h2 e => by
            rcases e with e | e
            · exact Blk.ne_ hb HL.out.top h1 e
            · obtain ⟨cs, hb2⟩ := HHE.out.row _ e; exact Blk.ne_ hb hb2 h2 rfl
          refine ⟨_, rfl, OwnS.none_, ⟨wb, fv, nv, v7, hbE, Blk.keeps HL.out.wait kC (tr HL.out.wait (by decide) (by decide)), HL.out.first.far kC (fun i hi => by obtain ⟨cs, hb⟩ := HL.out.first.ownBlk i hi; exact tr hb (by decide) (by decide)), fun i hi => .inl (HL.out.ffirst i hi), ?_, ?_, ⟨fun hs => ?_, fun hs => absurd h35 hs⟩, .inl HL.out.fl, .inl HL.out.fw, HL.out.inn.ext kF.size⟩, kF⟩
          · have := HO7.out
            rw [str_data] at this
            rw [u8Vs_app]
            exact this.keeps kE (fun i _ hb e => by obtain ⟨cs, hb⟩ := hb; exact Blk.ne_ hb HL7.out (by decide) e)
          · intro i hi
            rcases HAT.out with e | e
            · rw [e] at hi; exact .inl (hrowF i hi)
            · rw [e] at hi; injection hi with hi
              obtain ⟨cs, hb⟩ := HO7.out.row i (by rw [e, hi])
              exact .inr ⟨by omega, by have := hb.lt; have := kE.size; omega⟩
          · obtain ⟨rb, v, h1, h2, h3, h4⟩ := HL.out.run.1 hs
            exact ⟨rb, v, h1, h2.keeps kC (tr h2.1 (by decide) (by decide)) (fun i hi => by obtain ⟨cs, hb⟩ := h2.2.ownBlk i hi; exact tr hb (by decide) (by decide)), .inl h3, fun i hi => .inl (h4 i hi)⟩
    · have hm : sendL m s = (m, [], false) := by unfold sendL; rw [if_neg h4, if_pos (.inl ⟨fun e => h35 (.inl e), fun e => h35 (.inr e)⟩)]
      have HM := Lib.hid hm
      obtain ⟨st, hse⟩ : ∃ st, st = m.st := ⟨_, rfl⟩
      rw [← hse] at HS h4 h35
      have e4 : (st == 4) = false := by simpa using h4
      have e3 : (st == 3) = false := by simpa using fun e => h35 (.inl e)
      have e5 : (st == 5) = false := by simpa using fun e => h35 (.inr e)
      clear h hk hm hse h4 h35
      go_enter Tryz.func79, Tryz.ntmps79
      go_wp2_with fail
      refine HS.out.mono ?_
      rintro e w2 ⟨rfl, hw⟩
      obtain rfl : w = w2 := hw.symm
      go_wp2_with fail
      go_ret2
      rw [HM.out]
      exact ⟨_, rfl, Acts.same HA.out (Keeps.refl _ _)⟩
end
end Go.Proofs.YtkmpdobojgiegaaGreatDoor

/-
  line: New.
-/
namespace Go.Proofs.YtkmpdobojgiegaaGreatDoor
open Go.RowKit

/-- why there is no line of such settings; 0: there is one -/
def lineC0 (c : Con) : Int := if ruleOk c.base c.cap c.jitter = true then (brkP c.init.data.toList).1 else 2
/-- the line of such settings -/
def lnOf (c : Con) : Ln := Ln.new c.base c.cap c.jitter (brkP c.init.data.toList).2
def conV (c : Con) : Value := .agg (conR c).toArray
theorem lnOf_ok {c : Con} (h : lineC0 c = 0) : LnOk (lnOf c) := by
  unfold lineC0 at h
  split at h
  · rename_i hr
    exact LnOk.new hr (brkP_ok h)
  · cases h
set_option maxRecDepth 100000 in
theorem lnew_any (w : World) (c : Con) (hi : c.init.size ≤ 1073741824) : Calls Tryz.prog 41 #[conV c] w fun e w' =>
    ((lineC0 c = 0 ∧ ∃ lb, e = .returned (.tuple #[.pointer (some ⟨lb, 0, none⟩), .int .i64 0]) ∧ LineAt w' (Ext (fun _ => False) w w') lb (lnOf c)) ∨ (lineC0 c ≠ 0 ∧ e = .returned (.tuple #[.pointer none, .int .i64 (lineC0 c)]))) ∧ Keeps (fun _ => False) w w' := by
  obtain ⟨O, hO⟩ : ∃ O, O = brkP c.init.data.toList := ⟨_, rfl⟩
  have hl : lineC0 c = if ruleOk c.base c.cap c.jitter = true then O.1 else 2 := by rw [hO]; rfl
  have hlo : lnOf c = Ln.new c.base c.cap c.jitter O.2 := by rw [hO]; rfl
  have hb := fun W => bread_any W c.init hi
  rw [← hO] at hb
  have HB := Lib.hid hb
  rw [hl, hlo]
  clear hl hlo hb hi hO
  obtain ⟨nm, kind, lines, bytes, gens, size, base, cap, jit, init⟩ := c
  unfold conV conR
  simp only at HB ⊢
  cases hr : ruleOk base cap jit with
  | false =>
    have HN := Lib.hid (fun W => bnew_bad W base cap jit hr)
    rw [if_neg (by decide)]
    clear hr
    go_enter Tryz.func41, Tryz.ntmps41
    go_wp2_with fail
    refine (HN.out _).mono ?_
    rintro e w2 ⟨rfl, k2⟩
    have HK2 := Lib.hid (((Keeps.refl (fun _ => False) w).alloc _).trans k2)
    clear k2
    go_wp2_with fail
    go_ret2
    exact ⟨.inr ⟨by decide, rfl⟩, HK2.out⟩
  | true =>
    have HN := Lib.hid (fun W => bnew_ok W base cap jit hr)
    rw [if_pos rfl]
    clear hr
    go_enter Tryz.func41, Tryz.ntmps41
    go_wp2_with fail
    refine (HN.out _).mono ?_
    rintro e w2 ⟨wb, rfl, hwb, hW, k2⟩
    obtain ⟨W1, hW1⟩ : ∃ W1, W1 = w.alloc (.cells #[.string nm, .int .i64 kind, .int .i64 lines, .int .i64 bytes, .int .i64 gens, .int .i64 size, .int .i64 base, .int .i64 cap, .int .i64 jit, .string init] 23) := ⟨_, rfl⟩
    have k1 : Keeps (fun _ => False) w W1 := by rw [hW1]; exact (Keeps.refl _ _).alloc _
    have hb1 : Blk W1 w.heap.size 23 #[.string nm, .int .i64 kind, .int .i64 lines, .int .i64 bytes, .int .i64 gens, .int .i64 size, .int .i64 base, .int .i64 cap, .int .i64 jit, .string init] := by rw [hW1]; exact Blk.new _ _ _
    rw [← hW1] at k2 hwb
    have d9 := (hb1.keeps k2 (fun h => h)).cell 9
    simp only [List.getElem?_toArray, List.getElem?_cons_zero, List.getElem?_cons_succ] at d9
    have HK1 := Lib.hid k1
    have HK2 := Lib.hid (k1.trans k2)
    have HWB := Lib.hid hwb
    have HW := Lib.hid hW
    clear hW1 k1 hb1 k2 hwb hW
    go_wp2_with fail
    refine (HB.out _).mono ?_
    rintro e w3 ⟨⟨v, rfl, hV⟩, k3⟩
    have HV := Lib.hid hV
    have HK3 := Lib.hid k3
    obtain ⟨c0, hc0⟩ : ∃ c0, c0 = O.1 := ⟨_, rfl⟩
    have HC0 := Lib.hid hc0
    rw [← hc0]
    clear hV k3 hc0
    by_cases h0 : c0 = 0
    · subst h0
      obtain ⟨av, cv, hav⟩ := HV.out.sl
      obtain ⟨nv, hnv⟩ : ∃ nv, nv = O.2.length := ⟨_, rfl⟩
      rw [← hnv] at hav
      clear hnv
      subst hav
      go_wp2_with fail
      go_ret2
      obtain ⟨W4, hW4⟩ : ∃ W4, W4 = w3.alloc (.cells (lineC wb 0 (.slice av nv cv) (.pointer none) 0 (.slice none 0 0)) 129) := ⟨_, rfl⟩
      have k4 : Keeps (fun _ => False) w3 W4 := by rw [hW4]; exact (Keeps.refl _ _).alloc _
      have hb4 : Blk W4 w3.heap.size 129 (lineC wb 0 (.slice av nv cv) (.pointer none) 0 (.slice none 0 0)) := by rw [hW4]; exact Blk.new _ _ _
      have kk := (HK2.out.trans HK3.out).trans k4
      have hs1 := HK1.out.size
      have hs2 := HK2.out.size
      have hs3 := HK3.out.size
      have hs4 : W4.heap.size = w3.heap.size + 1 := by rw [hW4]; simp
      refine ⟨.inl ⟨HC0.out.symm, w3.heap.size, rfl, wb, (.slice av nv cv), (.pointer none), (.slice none 0 0), ?_⟩, by rw [hW4] at kk; exact kk⟩
      change LineV (w3.alloc (.cells (lineC wb 0 (.slice av nv cv) (.pointer none) 0 (.slice none 0 0)) 129)) (Ext (fun _ => False) w (w3.alloc (.cells (lineC wb 0 (.slice av nv cv) (.pointer none) 0 (.slice none 0 0)) 129))) w3.heap.size (Ln.new base cap jit O.2) wb (.slice av nv cv) (.pointer none) (.slice none 0 0)
      rw [← hW4]
      show LineV W4 (Ext (fun _ => False) w W4) w3.heap.size (Ln.new base cap jit O.2) wb (.slice av nv cv) (.pointer none) (.slice none 0 0)
      have hwb2 : wb < w2.heap.size := HW.out.lt
      have hwb1 := HWB.out
      refine ⟨hb4, Blk.keeps (Blk.keeps HW.out HK3.out (fun h => h)) k4 (fun h => h), ((HV.out.moreS (Nat.zero_le _)).far k4 (fun _ _ h => h)), fun i hi => ?_, OwnQ.none_, by simp [rowB], RunPart.idle (by show ¬ ((0 : Int) = 3 ∨ (0 : Int) = 5); omega), .inr ⟨by omega, by omega⟩, .inr ⟨by omega, by omega⟩, fun i hi => hi.elim (fun h => h.elim) (·.2)⟩
      have := World.ownsRow.lt HV.out i hi
      exact .inr ⟨by omega, by omega⟩
    · have hb : (c0 != 0) = true := by simpa using h0
      have H0 := Lib.hid h0
      clear h0
      go_wp2_with fail
      go_ret2
      exact ⟨.inr ⟨by rw [← HC0.out]; exact H0.out, by rw [← HC0.out]; rfl⟩, HK2.out.trans HK3.out⟩
end Go.Proofs.YtkmpdobojgiegaaGreatDoor

/-
  The past's readers and writers: New, Add, Came, From of package past.
-/
namespace Go.Proofs.YtkmpdobojgiegaaGreatDoor
open Go.RowKit

/-- block p is a past for m bytes; A is all that was told; its ring is block g, with its bytes in block b -/
structure IsPast (w : World) (p g b m : Nat) (A : List UInt8) : Prop where
  top : Blk w p 148 #[.pointer (some ⟨g, 0, none⟩), .int .i64 A.length]
  ring : IsRing w g b m (A.drop (A.length - m)) (A.length - m)
  ne1 : p ≠ g
  ne2 : p ≠ b

theorem IsPast.keeps {w w' : World} {p g b m : Nat} {A : List UInt8} {S : Nat → Prop} (h : IsPast w p g b m A) (k : Keeps S w w') (h0 : ¬ S p) (h1 : ¬ S g) (h2 : ¬ S b) : IsPast w' p g b m A :=
  ⟨h.top.keeps k h0, h.ring.keeps k h1 h2, h.ne1, h.ne2⟩
theorem IsPast.drewN {w : World} {p g b m : Nat} {A : List UInt8} (h : IsPast w p g b m A) (n : Nat) : IsPast (w.drewN n) p g b m A := h.keeps ((Keeps.refl (fun _ => False) w).drewN n) id id id
theorem IsPast.lt {w : World} {p g b m : Nat} {A : List UInt8} (h : IsPast w p g b m A) : p < w.heap.size ∧ g < w.heap.size ∧ b < w.heap.size := ⟨h.top.lt, h.ring.lt.1, h.ring.lt.2⟩
theorem IsPast.pos {w : World} {p g b m : Nat} {A : List UInt8} (h : IsPast w p g b m A) : 0 < m ∧ m ≤ 1048576 := h.ring.fits.2

theorem quiet_add {P : Program} {f : FuncId} {args : Array Value} {w : World} {a n : Nat} {v : Value} (h : Calls P f args (w.drewN (a + n)) (Qt v (w.drewN (a + n)))) :
    Calls P f args (w.drewN (a + n)) fun e w'' => e = .returned v ∧ ∃ m, w'' = w.drewN (a + m) :=
  h.mono fun _ _ ⟨he, m, hm⟩ => ⟨he, n + m, by rw [hm, World.drewN_drewN, Nat.add_assoc]⟩

section
variable (w : World) (p g b m : Nat) (A : List UInt8)

theorem pmade_yes (h : IsPast w p g b m A) : Calls Tryz.prog 73 #[.pointer (some ⟨p, 0, none⟩)] w (Qt (.bool true) w) := by
  have c0 := h.top.cell 0
  simp at c0
  go_enter Tryz.func73, Tryz.ntmps73
  go_wp2
  all_goals go_ret
  exact ⟨rfl, 0, rfl⟩
theorem pcame_yes (h : IsPast w p g b m A) : Calls Tryz.prog 23 #[.pointer (some ⟨p, 0, none⟩)] w (Qt (.int .i64 A.length) w) := by
  have c1 := h.top.cell 1
  simp at c1
  go_enter Tryz.func23, Tryz.ntmps23
  go_wp2_with (go_at_call 73; refine (pmade_yes _ _ _ _ _ _ h).mono ?_; rintro e w' ⟨rfl, n, rfl⟩)
  go_ret
  exact Qt.of rfl
theorem pfrom_yes (h : IsPast w p g b m A) (hA : A.length ≤ 4611686018427387904) : Calls Tryz.prog 71 #[.pointer (some ⟨p, 0, none⟩)] w (Qt (.int .i64 (A.length - m : Nat)) w) := by
  have c0 := h.top.cell 0
  have c1 := h.top.cell 1
  simp at c0 c1
  have hl : ((A.drop (A.length - m)).length : Int) = ((A.length - (A.length - m) : Nat) : Int) := by simp
  have hC : ∀ k, Calls Tryz.prog 142 #[.pointer (some ⟨g, 0, none⟩)] (w.drewN k) (Qt (.int .i64 (A.length - (A.length - m) : Nat)) (w.drewN k)) := fun k => by
    have q := ilen_any (w.drewN k) g b m _ _ (h.ring.drewN k)
    rw [hl] at q
    exact q
  have HC := Lib.hid hC
  clear hl hC
  have hw : IntKind.i64.wrap ((A.length : Int) - ((A.length - (A.length - m) : Nat) : Int)) = ((A.length - m : Nat) : Int) := by rw [wrap_in (by omega) (by omega)]; omega
  go_enter Tryz.func71, Tryz.ntmps71
  go_wp2_with (go_at_call 73; refine (pmade_yes _ _ _ _ _ _ h).mono ?_; rintro e w' ⟨rfl, n, rfl⟩)
  go_quiet ((go_at_call 142; exact quiet_add (HC.out _)))
  go_wp2
  go_ret
  exact Qt.of2 (int_eq (by omega))
end
end Go.Proofs.YtkmpdobojgiegaaGreatDoor

/-
  The past's New, Add and Slice.
-/
namespace Go.Proofs.YtkmpdobojgiegaaGreatDoor
open Go.RowKit

theorem pnew_ok (w : World) (k : Nat) (h1 : 1 ≤ k) (h2 : k ≤ 1048576) : Calls Tryz.prog 47 #[.int .i64 k] w fun e w' =>
    ∃ p g b, e = .returned (.tuple #[.pointer (some ⟨p, 0, none⟩), .int .i64 0]) ∧ w.heap.size ≤ p ∧ w.heap.size ≤ g ∧ w.heap.size ≤ b ∧ Keeps (fun _ => False) w w' ∧ IsPast w' p g b k [] := by
  go_enter Tryz.func47, Tryz.ntmps47
  go_wp2_with (go_at_call 112; refine (new_ok _ _ h1 h2).mono ?_; rintro e w1 ⟨g, b, rfl, hg, hb, k1, r1⟩)
  go_ret2
  have hl := r1.lt
  refine ⟨w1.heap.size, g, b, rfl, k1.size, hg, hb, k1.alloc _, Blk.new _ _ _, ?_, by omega, by omega⟩
  have := r1.keeps ((Keeps.refl (fun _ => False) w1).alloc (.cells #[.pointer (some ⟨g, 0, none⟩), .int .i64 0] 148)) id id
  simpa using this

section
variable (w : World) (p g b m : Nat) (A : List UInt8)

theorem padd_any (s : ByteArray) (h : IsPast w p g b m A) (hs : s.size ≤ maxLen) (hA : A.length + s.size ≤ 2305843009213693952) :
    Calls Tryz.prog 63 #[.pointer (some ⟨p, 0, none⟩), .string s] w fun e w' => e = .returned (.tuple #[]) ∧ Keeps (fun i => i = p ∨ i = g ∨ i = b) w w' ∧ IsPast w' p g b m (A ++ s.data.toList) := by
  have c0 := h.top.cell 0
  have c1 := h.top.cell 1
  have f1 := h.top.frozen 1
  simp at c0 c1
  have hne1 := h.ne1
  have hne2 := h.ne2
  have hst : (A.drop (A.length - m) ++ s.data.toList).drop ((A.drop (A.length - m)).length + s.size - m) = (A ++ s.data.toList).drop ((A ++ s.data.toList).length - m) ∧ (A.length - m) + ((A.drop (A.length - m)).length + s.size - m) = (A ++ s.data.toList).length - m := by
    have hl : s.data.toList.length = s.size := by simp
    have h2 : (A.length - m) + ((A.drop (A.length - m)).length + s.size - m) = (A ++ s.data.toList).length - m := by simp [hl]; omega
    refine ⟨?_, h2⟩
    rw [← h2, ← List.drop_drop]
    congr 1
    rw [List.drop_append_of_le_length (by omega)]
  have HST := Lib.hid hst
  clear hst
  go_enter Tryz.func63, Tryz.ntmps63
  go_wp2_with (first
    | (go_at_call 73; refine (pmade_yes _ _ _ _ _ _ h).mono ?_; rintro e w' ⟨rfl, n, rfl⟩)
    | (go_at_call 132; go_must (refine (force_any _ g b m _ _ s ((h.ring.drewN n).keeps ((Keeps.refl (· = p) _).setCell (p := ⟨p, 1, none⟩) (fun _ => rfl) _) (fun e => hne1 e.symm) (fun e => hne2 e.symm)) hs (by omega)).mono ?_; rw [HST.out.1, HST.out.2]; rintro e w2 ⟨rfl, k2, r2⟩)))
  go_end0
  have T := (((h.top.drewN n).set_ 1 (.int .i64 ((A ++ s.data.toList).length : Nat))).keeps (w' := w2) (S := fun k => k = g ∨ k = b))
  have hl : (((A ++ s.data.toList).length : Nat) : Int) = (A.length : Int) + s.size := by simp
  rw [hl] at T
  have T := T k2 (fun e => by rcases e with e | e; exact hne1 e; exact hne2 e)
  refine ⟨rfl, (((Keeps.refl _ _).drewN n).setCell (fun _ => .inl rfl) _).trans (k2.mono fun i _ e => .inr e), ?_, r2, hne1, hne2⟩
  rw [hl]
  simpa using T

theorem pslice_eq (x : Int) (h : IsPast w p g b m A) (hA : A.length ≤ 2305843009213693952) (h1 : (A.length - m : Nat) ≤ x) (h2 : x ≤ A.length) :
    Calls Tryz.prog 22 #[.pointer (some ⟨p, 0, none⟩), .int .i64 x, .int .i64 x] w (Qt (.tuple #[.string ⟨#[]⟩, .bool true]) w) := by
  go_enter Tryz.func22, Tryz.ntmps22
  go_wp2_with (first | (go_at_call 71; refine (pfrom_yes _ p g b m A h (by omega)).mono ?_; rintro e w' ⟨rfl, n, rfl⟩) | (go_at_call 23; refine (pcame_yes _ p g b m A (h.drewN _)).mono ?_; rintro e w' ⟨rfl, n2, rfl⟩))
  go_ret2
  exact Qt.of rfl

theorem pslice_lt (x y : Nat) (h : IsPast w p g b m A) (hA : A.length ≤ 2305843009213693952) (h1 : A.length - m ≤ x) (h2 : x < y) (h3 : y ≤ A.length) :
    Calls Tryz.prog 22 #[.pointer (some ⟨p, 0, none⟩), .int .i64 x, .int .i64 y] w fun e w' => e = .returned (.tuple #[.string (str ((A.drop x).take (y - x))), .bool true]) ∧ Keeps (fun _ => False) w w' := by
  have hb : ((x : Int) == y) = false := by rw [beq_eq_false_iff_ne]; omega
  have hpl := h.lt
  have hm := h.pos
  go_enter Tryz.func22, Tryz.ntmps22
  go_wp2_with fail
  refine (Qt.k (pfrom_yes _ p g b m A h (by omega))).mono ?_
  rintro e w2 ⟨rfl, k2⟩
  have h := h.keeps k2 id id id
  go_wp2_with fail
  refine (Qt.k (pcame_yes _ p g b m A h)).mono ?_
  rintro e w3 ⟨rfl, k3⟩
  have h := h.keeps k3 id id id
  go_wp2_with fail
  refine (Qt.k (pfrom_yes _ p g b m A h (by omega))).mono ?_
  rintro e w4 ⟨rfl, k4⟩
  have h := h.keeps k4 id id id
  have K4 := (k2.trans k3).trans k4
  clear k2 k3 k4
  have hlt0 := hpl
  have HA : Hid (∀ k c, ((A.drop x).take (y - x))[k]? = some c → (A.drop (A.length - m))[x - (A.length - m) + k]? = some c) := fun k c hk => by
    rw [List.getElem?_take] at hk
    split at hk
    · rw [List.getElem?_drop] at hk ⊢
      rw [← hk]; congr 1; omega
    · cases hk
  have hwl : ((A.drop x).take (y - x)).length = y - x := by simp; omega
  obtain ⟨cs, hcs⟩ : ∃ cs, cs = (A.drop x).take (y - x) := ⟨_, rfl⟩
  rw [← hcs] at HA hwl
  have HC := Lib.hid hcs
  clear hcs
  have hK5 : w.heap.size ≤ w4.heap.size := K4.size
  go_wp2_with (with_reducible show wpList _ _ _ (⟨some 38, _, _, _, _, _⟩ :: _) _ _; go_must (refine wpList_make_empty rfl (.const (.int .i64 0)) (.tmp 37) 126 rfl 5 (.int .u8 0) 1 Tryz.underlying126 (by kernel_rfl) (by omega) _ .i64 rfl rfl (by omega) (by omega) ?_; intro w5 o5 k5 s5; have S5 := Lib.hid s5; clear s5))
  have o5 := o5.more hK5
  rw [show ((y : Int) - (x : Int)).toNat = y - x by omega] at o5
  have K5 := K4.trans k5
  have h := h.keeps k5 id id id
  have hu : ∀ c : UInt8, (Value.int .u8 (c.toNat : Int)).oneCell' = true := fun _ => rfl
  have HU := Lib.hid hu
  clear hu
  go_loopw [9, 10, 11, 12] (fun u9 u10 u11 u12 wr => ∃ k : Nat, k ≤ y - x ∧ u10 = .int .i64 ((x : Int) - (A.length - m : Nat) + k) ∧ OwnL wr w.heap.size 5 u9 ((cs.take k).map fun c => Value.int .u8 c.toNat) ∧ IsPast wr p g b m A ∧ Keeps (fun _ => False) w wr)
    (fun _ u10 _ _ _ => (y - (intOf u10).toNat))
  case atStart => exact ⟨0, Nat.zero_le _, by simp, o5, h, K5⟩
  case round =>
    obtain ⟨k, hk, rfl, hO, hI, hK⟩ := hrel
    by_cases hlt : k < y - x
    · obtain ⟨c, hc⟩ : ∃ c, cs[k]? = some c := ⟨cs[k]'(by omega), List.getElem?_eq_getElem (by omega)⟩
      have hc2 : (A.drop (A.length - m))[((x : Int) - (A.length - m : Nat) + k).toNat]? = some c := by
        rw [show ((x : Int) - (A.length - m : Nat) + k).toNat = x - (A.length - m) + k by omega]
        exact HA.out k c hc
      have HC2 := Lib.hid hc2
      have hc3 : cs.take (k + 1) = cs.take k ++ [c] := by rw [List.take_add_one, hc]; rfl
      have HC3 := Lib.hid hc3
      clear hc hc2 hc3
      have c0 := hI.top.cell 0
      simp at c0
      have hl1 : (x : Int) - (A.length - m : Nat) + k < (x : Int) - (A.length - m : Nat) + y - x := by omega
      go_wp2_with (first | (go_at_call 72; go_must (refine (Qt.k (iat_in _ g b m _ _ _ c hI.ring (by omega) HC2.out)).mono ?_; rintro e w6 ⟨rfl, k6⟩; have O6 := hO.keeps k6 (fun _ _ _ => id); have sz6 := k6.size; have szr := hK.size)) | (with_reducible show wpList _ _ _ (⟨some 61, _, _, _, _, _⟩ :: _) _ _; go_must (refine wpList_append_one rfl (.tmp 58) (.tmp 60) 126 rfl w.heap.size 5 (.int .u8 0) 1 Tryz.underlying126 (by kernel_rfl) rfl (by omega) _ _ rfl (O6.keeps ((Keeps.refl (fun _ => False) _).alloc _) (fun _ _ _ => id)) ⟨w6.heap.size, 0, none⟩ 1 (.int .u8 c.toNat) rfl ((Blk.new _ _ _).cell 0) (HU.out c) (by simp; omega) (by simp; omega) ?_; intro v7 w7 O7 k7)))
      go_roundw
      case rel =>
        have K7 := ((Keeps.refl (fun _ => False) wr).trans k6).alloc (.cells #[.int .u8 c.toNat] 5)
        refine ⟨k + 1, by omega, by go_num, ?_, ?_, ?_⟩
        · rw [HC3.out, List.map_append]; exact O7
        · exact (hI.keeps K7 id id id).keeps k7 (fun e => by omega) (fun e => by omega) (fun e => by omega)
        · exact (hK.trans K7).and_ k7 (fun i hi e => by omega)
      case measure => simp [intOf]; omega
    · have hk2 : k = y - x := by omega
      subst hk2
      have hl2 : ¬ ((x : Int) - (A.length - m : Nat) + (y - x : Nat) < (x : Int) - (A.length - m : Nat) + y - x) := by omega
      have hO2 : OwnL wr w.heap.size 5 u9 (cs.map fun c => Value.int .u8 c.toNat) := by rw [List.take_of_length_le (by omega)] at hO; exact hO
      go_wp2_with (with_reducible show wpList _ _ _ (⟨some 63, _, _, _, _, _⟩ :: _) _ _; go_must (refine wpList_string_own rfl (.tmp 62) 126 9 rfl 5 Tryz.underlying126 Tryz.underlying5 Tryz.underlying9 w.heap.size u9 cs rfl hO2 ?_))
      go_ret2
      exact ⟨by rw [← HC.out]; rfl, hK⟩

theorem pslice_yes (x y : Int) (h : IsPast w p g b m A) (hA : A.length ≤ 2305843009213693952) (h1 : (A.length - m : Nat) ≤ x) (h2 : x ≤ y) (h3 : y ≤ A.length) :
    Calls Tryz.prog 22 #[.pointer (some ⟨p, 0, none⟩), .int .i64 x, .int .i64 y] w fun e w' => e = .returned (.tuple #[.string (str ((A.drop x.toNat).take (y.toNat - x.toNat))), .bool true]) ∧ Keeps (fun _ => False) w w' := by
  by_cases he : x = y
  · subst he
    rw [Nat.sub_self, List.take_zero]
    exact Qt.k (pslice_eq w p g b m A x h hA h1 h3)
  · obtain ⟨a, rfl⟩ := Int.eq_ofNat_of_zero_le (show 0 ≤ x by omega)
    obtain ⟨c, rfl⟩ := Int.eq_ofNat_of_zero_le (show 0 ≤ y by omega)
    exact pslice_lt w p g b m A a c h hA (by omega) (by omega) (by omega)
end

end Go.Proofs.YtkmpdobojgiegaaGreatDoor

/-
  Lines of a text, in plain words: the last lines that the document's answer gathers begin where the past's way back ends. No program in sight.
-/
namespace Go.Proofs.YtkmpdobojgiegaaGreatDoor

/-- where the line begins in which place j lies -/
def scanP (t : List UInt8) : Nat → Nat
  | 0 => 0
  | j + 1 => if t[j]? = some 10 then j + 1 else scanP t j
/-- n lines back from place i -/
def backN (t : List UInt8) (i : Nat) : Nat → Nat
  | 0 => i
  | n + 1 => backN t (scanP t (i - 1)) n

theorem backN_zero (t : List UInt8) : ∀ n, backN t 0 n = 0
  | 0 => rfl
  | n + 1 => by unfold backN; exact backN_zero t n
/-- at a place ahead of which a line feed stands the scan stays -/
theorem scanP_hit (t : List UInt8) (j : Nat) (h : t[j]? = some 10) : scanP t (j + 1) = j + 1 := by unfold scanP; rw [if_pos h]
theorem scanP_miss (t : List UInt8) (j : Nat) (h : t[j]? ≠ some 10) : scanP t (j + 1) = scanP t j := by rw [scanP, if_neg h]

end Go.Proofs.YtkmpdobojgiegaaGreatDoor

/-
  The past's Back: where the last lines begin.
-/
namespace Go.Proofs.YtkmpdobojgiegaaGreatDoor
open Go.RowKit

/-- a scope with one label to which the run jumps back: what follows the label is walked once -/
theorem wp_scope_both_pastc {P : Program} {a : Act} {w : World} {Q : Exit → Act → World → Prop} {c rest : Code} (l : Nat) (J : Act → World → Prop) (μ : Act → World → Nat) (hf : findLabel c l = some (.seq .skip rest))
    (pass : ∀ a w, J a w → rest.wp P (Exit.jump l (fun a' w' => J a' w' ∧ μ a' w' < μ a w) Q) a w)
    (first : Hid (∀ a w, J a w → rest.wp P (Exit.jump l J Q) a w) → c.wp P (Exit.jump l J Q) a w) : (Code.scope c).wp P Q a w :=
  wp_scope_jumps l J μ hf (first fun a w h => wp_mono (pass a w h) fun e a' w' hq => by
    cases e <;> first | exact hq | exact ⟨hq.1, hq.2.1⟩) fun a w h => wp_seq (wp_skip (pass a w h))

theorem ret_int' {k : IntKind} {a b : Int} (h : a = b) : Ending.returned (.int k a) = .returned (.int k b) := by rw [h]
/-- the frame at the label: the lines that are asked for yet, and the place -/
def BackJ (w : World) (p g b m : Nat) (A : List UInt8) (R : Nat) (a : Act) (w' : World) : Prop :=
  ∃ (Lv : Int) (i : Nat) (u2 u3 u4 u5 u7 u8 u9 u10 u11 u12 u13 u14 u15 u16 u17 u18 u19 u20 u21 u22 u23 u24 u25 u26 u27 u28 u29 u30 u31 u32 u33 u34 u35 u36 u37 u38 u39 u40 u41 u42 u43 u44 u45 u46 : Value), a = ⟨#[.pointer (some ⟨p, 0, none⟩), .int .i64 Lv, u2, u3, u4, u5, .int .i64 (i : Nat), u7, u8, u9, u10, u11, u12, u13, u14, u15, u16, u17, u18, u19, u20, u21, u22, u23, u24, u25, u26, u27, u28, u29, u30, u31, u32, u33, u34, u35, u36, u37, u38, u39, u40, u41, u42, u43, u44, u45, u46], []⟩ ∧ Lv ≤ 4611686018427387904 ∧ i ≤ A.length - (A.length - m) ∧ (A.length - m) + backN (A.drop (A.length - m)) i Lv.toNat = R ∧ IsPast w' p g b m A ∧ Keeps (fun _ => False) w w'
def BackM (a : Act) (_w : World) : Nat := (intOf (a.tmps.getD 6 undef)).toNat

set_option maxRecDepth 100000 in
set_option maxHeartbeats 2000000 in
theorem pback_yes (w : World) (p g b m : Nat) (A : List UInt8) (L : Int) (h : IsPast w p g b m A) (hA : A.length ≤ 2305843009213693952) (hL : L ≤ 4611686018427387904) :
    Calls Tryz.prog 107 #[.pointer (some ⟨p, 0, none⟩), .int .i64 L] w fun e w' => e = .returned (.int .i64 ((A.length - m) + backN (A.drop (A.length - m)) (A.length - (A.length - m)) L.toNat : Nat)) ∧ Keeps (fun _ => False) w w' := by
  obtain ⟨R, hR⟩ : ∃ R, R = (A.length - m) + backN (A.drop (A.length - m)) (A.length - (A.length - m)) L.toNat := ⟨_, rfl⟩
  rw [← hR]
  have HR := Lib.hid hR
  clear hR
  go_enter Tryz.func107, Tryz.ntmps107
  go_wp2_with fail
  refine wp_scope_both_pastc 0 (BackJ w p g b m A R) BackM rfl ?pass ?first
  case pass =>
    rintro a w1 ⟨Lv, i, u2, u3, u4, u5, u7, u8, u9, u10, u11, u12, u13, u14, u15, u16, u17, u18, u19, u20, u21, u22, u23, u24, u25, u26, u27, u28, u29, u30, u31, u32, u33, u34, u35, u36, u37, u38, u39, u40, u41, u42, u43, u44, u45, u46, rfl, hLv, hi, hB, hP, hK⟩
    have hBL := Lib.hid hB
    clear hB
    have hst : ∀ wx, IsPast wx p g b m A → Calls Tryz.prog 71 #[.pointer (some ⟨p, 0, none⟩)] wx fun e w' => e = .returned (.int .i64 (A.length - m : Nat)) ∧ Keeps (fun _ => False) wx w' := fun wx hx => Qt.k (pfrom_yes wx p g b m A hx (by omega))
    have HST := Lib.hid hst
    clear hst
    by_cases ht : Lv < 1
    · have hz : backN (A.drop (A.length - m)) i Lv.toNat = i := by rw [show Lv.toNat = 0 by omega]; rfl
      go_wp2_with (go_at_call 71; refine (HST.out _ hP).mono ?_; rintro e w2 ⟨rfl, k2⟩)
      simp only [Exit.jump]
      go_ret
      exact ⟨ret_int' (by have := hBL.out; rw [hz] at this; omega), hK.trans k2⟩
    · by_cases h0 : i = 0
      · subst h0
        have hz : backN (A.drop (A.length - m)) 0 Lv.toNat = 0 := backN_zero _ _
        go_wp2_with (go_at_call 71; refine (HST.out _ hP).mono ?_; rintro e w2 ⟨rfl, k2⟩)
        simp only [Exit.jump]
        go_ret
        exact ⟨ret_int' (by have := hBL.out; rw [hz] at this; omega), hK.trans k2⟩
      · have hne : ((i : Int) == 0) = false := by rw [beq_eq_false_iff_ne]; omega
        have hL1 : 1 ≤ Lv := by omega
        have hi0 : 0 < i := by omega
        obtain ⟨n, hn⟩ : ∃ n, Lv.toNat = n + 1 := ⟨Lv.toNat - 1, by omega⟩
        have hBn : A.length - m + backN (A.drop (A.length - m)) (scanP (A.drop (A.length - m)) (i - 1)) n = R := by
          have := hBL.out
          rw [hn] at this
          exact this
        have HBn := Lib.hid hBn
        have HN := Lib.hid (show (Lv - 1).toNat = n from by omega)
        clear hBn hn ht h0
        go_wp2_with fail
        go_loopw [6, 7, 8] (fun s6 s7 s8 wr => ∃ j : Nat, s6 = .int .i64 j ∧ j + 1 ≤ i ∧ scanP (A.drop (A.length - m)) j = scanP (A.drop (A.length - m)) (i - 1) ∧ IsPast wr p g b m A ∧ Keeps (fun _ => False) w wr) (fun s6 _ _ _ => (intOf s6).toNat)
        case atStart => exact ⟨i - 1, by go_num, by omega, rfl, hP, hK⟩
        case round =>
          obtain ⟨j, rfl, hj, hs, hI, hk⟩ := hrel
          have HS := Lib.hid hs
          clear hs
          rcases Nat.eq_zero_or_pos j with h0 | h0
          · subst h0
            have hz : scanP (A.drop (A.length - m)) (i - 1) = 0 := HS.out.symm
            go_wp2_with (go_at_call 71; refine (HST.out _ hI).mono ?_; rintro e w2 ⟨rfl, k2⟩)
            simp only [Exit.jump]
            go_ret
            exact ⟨ret_int' (by have := HBn.out; rw [hz, backN_zero] at this; omega), hk.trans k2⟩
          · obtain ⟨c, hc⟩ : ∃ c, (A.drop (A.length - m))[((j : Int) - 1).toNat]? = some c := ⟨_, List.getElem?_eq_getElem (by rw [List.length_drop]; omega)⟩
            have hc2 : (A.drop (A.length - m))[j - 1]? = some c := by rw [← hc]; congr 1; omega
            have HC := Lib.hid hc
            have HC2 := Lib.hid hc2
            clear hc hc2
            have c0 := hI.top.cell 0
            simp at c0
            have hj1 : 1 ≤ j := h0
            by_cases h10 : c = 10
            · subst h10
              go_wp2_with (go_at_call 72; go_must (refine (Qt.k (iat_in _ g b m _ _ _ 10 hI.ring (by omega) HC.out)).mono ?_; rintro e w2 ⟨rfl, k2⟩))
              go_step3
              have hsj : scanP (A.drop (A.length - m)) j = j := by
                obtain ⟨q, rfl⟩ : ∃ q, j = q + 1 := ⟨j - 1, by omega⟩
                exact scanP_hit _ q (by have := HC2.out; simpa using this)
              refine And.intro rfl (And.intro ⟨Lv - 1, j, _, _, _, _, _, _, _, _, _, _, _, _, _, _, _, _, _, _, _, _, _, _, _, _, _, _, _, _, _, _, _, _, _, _, _, _, _, _, _, _, _, _, _, _, rfl, by omega, by omega, ?_, hI.keeps k2 id id id, hk.trans k2⟩ ?_)
              · rw [HN.out, ← HBn.out, ← HS.out, hsj]
              · simp [BackM, intOf]; omega
            · have hcn : ((c.toNat : Int) == 10) = false := by
                rw [beq_eq_false_iff_ne]
                intro e
                exact h10 (UInt8.toNat_inj.1 (by simpa using (show c.toNat = 10 by omega)))
              go_wp2_with (go_at_call 72; go_must (refine (Qt.k (iat_in _ g b m _ _ _ c hI.ring (by omega) HC.out)).mono ?_; rintro e w2 ⟨rfl, k2⟩))
              go_roundw
              case rel =>
                refine ⟨j - 1, by go_num, by omega, ?_, hI.keeps k2 id id id, hk.trans k2⟩
                rw [← HS.out]
                obtain ⟨q, rfl⟩ : ∃ q, j = q + 1 := ⟨j - 1, by omega⟩
                rw [scanP_miss _ q (by have := HC2.out; simp at this ⊢; rw [this]; intro e; injection e with e; exact h10 e)]
                rfl
              case measure => simp [intOf]; omega
  case first =>
    intro hpass
    go_wp2_with (first | (go_at_call 23; refine (Qt.k (pcame_yes _ p g b m A h)).mono ?_; rintro e w2 ⟨rfl, k2⟩; have h2 := h.keeps k2 id id id) | (go_at_call 71; refine (Qt.k (pfrom_yes _ p g b m A h2 (by omega))).mono ?_; rintro e w3 ⟨rfl, k3⟩; have h3 := h2.keeps k3 id id id; have K3 := k2.trans k3))
    have e : (A.length : Int) - ((A.length - m : Nat) : Int) = ((A.length - (A.length - m) : Nat) : Int) := by omega
    rw [e]
    refine wp_label ?_
    rename_i hk
    exact hk _ _ (hpass.out _ _ ⟨L, A.length - (A.length - m), _, _, _, _, _, _, _, _, _, _, _, _, _, _, _, _, _, _, _, _, _, _, _, _, _, _, _, _, _, _, _, _, _, _, _, _, _, _, _, _, _, _, _, _, rfl, hL, Nat.le_refl _, HR.out.symm, h3, K3⟩)
end Go.Proofs.YtkmpdobojgiegaaGreatDoor

/-
  A console in memory, with its footprint; made, Name, Past, Seat, Log.
-/
namespace Go.Proofs.YtkmpdobojgiegaaGreatDoor
open Go.RowKit

/-- the part k of a footprint -/
def Pt (F : Nat → Prop) (tag : Nat → Nat) (k : Nat) (i : Nat) : Prop := F i ∧ tag i = k
/-- new blocks belong to the part k -/
def tagE (tag : Nat → Nat) (w : World) (k : Nat) (i : Nat) : Nat := if i < w.heap.size then tag i else k
/-- a console, plainly: its settings, its line, who is there, all that was told, its log -/
structure Cns where
  c : Con
  m : Ln
  s : Sea
  past : List UInt8
  rest : Bool
  lost : Nat
def baseOf (c : Con) : ByteArray := c.name ++ ⟨#[46, 108, 111, 103]⟩
def consC (c : Con) (lb sb pb jb : Nat) : Array Value :=
  #[.pointer (some ⟨lb, 0, none⟩), .string c.name, .int .i64 c.kind, .int .i64 c.lines, .int .i64 c.bytes, .int .i64 c.gens, .int .i64 c.size, .int .i64 c.base, .int .i64 c.cap, .int .i64 c.jitter, .string c.init, .pointer (some ⟨sb, 0, none⟩), .pointer (some ⟨pb, 0, none⟩), .pointer (some ⟨jb, 0, none⟩)]
/-- a console at xb over a store at st, made of the blocks of F -/
structure ConsV (w : World) (F : Nat → Prop) (tag : Nat → Nat) (xb st : Nat) (x : Cns) (lb sb pb g b jb : Nat) : Prop where
  top : Blk w xb 60 (consC x.c lb sb pb jb)
  line : LineAt w (Pt F tag 1) lb x.m
  seat : SeatAt w (Pt F tag 2) sb x.s
  past : IsPast w pb g b 32768 x.past
  log : JourB w jb st (baseOf x.c) x.c.gens.toNat x.c.size.toNat x.rest x.lost
  pp : Pt F tag 3 pb ∧ Pt F tag 3 g ∧ Pt F tag 3 b
  pj : Pt F tag 4 jb
  px : Pt F tag 5 xb
  inn : In F w
  ok : LnOk x.m
section
variable {w0 w w' : World} {F G S FT : Nat → Prop} {tag : Nat → Nat} {xb st lb sb pb g b jb n : Nat} {x : Cns} {most : Int} {bad : Nat} {l : List SFile}
theorem Pt.old {k j : Nat} {i : Nat} (hF : In F w) (h : Pt F tag k i) : Pt (Ext F w w') (tagE tag w j) k i := ⟨.inl h.1, by unfold tagE; rw [if_pos (hF i h.1)]; exact h.2⟩
theorem Pt.ext {k : Nat} {i : Nat} (hF : In F w) (h : Ext (Pt F tag k) w w' i) : Pt (Ext F w w') (tagE tag w k) k i := by
  rcases h with h | h
  · exact h.old hF
  · exact ⟨.inr h, by unfold tagE; rw [if_neg (by omega)]⟩
theorem In.pt {k : Nat} (h : In F w) : In (Pt F tag k) w := fun i hi => h i hi.1
theorem Pt.ne {j k : Nat} {i : Nat} (h : Pt F tag j i) (hjk : j ≠ k) : ¬ Pt F tag k i := fun e => hjk (h.2.symm.trans e.2)
theorem ConsV.keeps (h : ConsV w F tag xb st x lb sb pb g b jb) (k : Keeps S w w') (hS : ∀ i, F i → ¬ S i) : ConsV w' F tag xb st x lb sb pb g b jb :=
  ⟨h.top.keeps k (hS _ h.px.1), h.line.keeps k (fun i hi => hS i hi.1), h.seat.keeps k (fun i hi => hS i hi.1), h.past.keeps k (hS _ h.pp.1.1) (hS _ h.pp.2.1.1) (hS _ h.pp.2.2.1), h.log.keeps k (hS _ h.pj.1), h.pp, h.pj, h.px, h.inn.later k, h.ok⟩
/-- the line acted -/
theorem ConsV.lined (h : ConsV w F tag xb st x lb sb pb g b jb) {m : Ln} (hl : LineAt w' (Ext (Pt F tag 1) w w') lb m) (k : Keeps (Pt F tag 1) w w') (ok : LnOk m) : ConsV w' (Ext F w w') (tagE tag w 1) xb st { x with m := m } lb sb pb g b jb :=
  ⟨h.top.keeps k (h.px.ne (by decide)), hl.mono (fun i hi => Pt.ext h.inn hi) (h.inn.ext k.size).pt, (h.seat.keeps k (fun i hi => hi.ne (by decide))).mono (fun i hi => hi.old h.inn) (h.inn.ext k.size).pt, h.past.keeps k (h.pp.1.ne (by decide)) (h.pp.2.1.ne (by decide)) (h.pp.2.2.ne (by decide)), h.log.keeps k (h.pj.ne (by decide)), ⟨h.pp.1.old h.inn, h.pp.2.1.old h.inn, h.pp.2.2.old h.inn⟩, h.pj.old h.inn, h.px.old h.inn, h.inn.ext k.size, ok⟩
/-- who is there acted -/
theorem ConsV.seated (h : ConsV w F tag xb st x lb sb pb g b jb) {s : Sea} (hl : SeatAt w' (Ext (Pt F tag 2) w w') sb s) (k : Keeps (Pt F tag 2) w w') : ConsV w' (Ext F w w') (tagE tag w 2) xb st { x with s := s } lb sb pb g b jb :=
  ⟨h.top.keeps k (h.px.ne (by decide)), (h.line.keeps k (fun i hi => hi.ne (by decide))).mono (fun i hi => hi.old h.inn) (h.inn.ext k.size).pt, hl.mono (fun i hi => Pt.ext h.inn hi) (h.inn.ext k.size).pt, h.past.keeps k (h.pp.1.ne (by decide)) (h.pp.2.1.ne (by decide)) (h.pp.2.2.ne (by decide)), h.log.keeps k (h.pj.ne (by decide)), ⟨h.pp.1.old h.inn, h.pp.2.1.old h.inn, h.pp.2.2.old h.inn⟩, h.pj.old h.inn, h.px.old h.inn, h.inn.ext k.size, h.ok⟩
/-- something was told -/
theorem ConsV.told (h : ConsV w F tag xb st x lb sb pb g b jb) {A : List UInt8} (hp : IsPast w' pb g b 32768 A) (k : Keeps (fun i => i = pb ∨ i = g ∨ i = b) w w') : ConsV w' F tag xb st { x with past := A } lb sb pb g b jb := by
  have hk : Keeps (Pt F tag 3) w w' := k.mono fun i _ e => by rcases e with rfl | rfl | rfl; exact h.pp.1; exact h.pp.2.1; exact h.pp.2.2
  exact ⟨h.top.keeps hk (h.px.ne (by decide)), h.line.keeps hk (fun i hi => hi.ne (by decide)), h.seat.keeps hk (fun i hi => hi.ne (by decide)), hp, h.log.keeps hk (h.pj.ne (by decide)), h.pp, h.pj, h.px, h.inn.later hk, h.ok⟩
/-- the log acted -/
theorem ConsV.logged (h : ConsV w F tag xb st x lb sb pb g b jb) {rest : Bool} {lost : Nat} (hj : JourB w' jb st (baseOf x.c) x.c.gens.toNat x.c.size.toNat rest lost) (k : Keeps (fun i => FT i ∨ i = jb) w w') (hap : Apart F FT) : ConsV w' F tag xb st { x with rest := rest, lost := lost } lb sb pb g b jb := by
  have hn : ∀ {j i : Nat}, Pt F tag j i → j ≠ 4 → ¬ (FT i ∨ i = jb) := fun {j i} hi hne e => by
    rcases e with e | e
    · exact hap i hi.1 e
    · subst e; exact hne (hi.2.symm.trans h.pj.2)
  exact ⟨h.top.keeps k (hn h.px (by decide)), h.line.keeps k (fun i hi => hn hi (by decide)), h.seat.keeps k (fun i hi => hn hi (by decide)), h.past.keeps k (hn h.pp.1 (by decide)) (hn h.pp.2.1 (by decide)) (hn h.pp.2.2 (by decide)), hj, h.pp, h.pj, h.px, h.inn.later k, h.ok⟩
theorem ConsV.logF (h : ConsV w F tag xb st x lb sb pb g b jb) (hS : StoF w0 w FT st most bad l n) (hlo : ∀ i, F i → w0.heap.size ≤ i) : LogF w0 w FT st jb most (baseOf x.c) x.c.gens.toNat x.c.size.toNat ⟨bad, l, x.rest, x.lost⟩ n := ⟨hS, h.log, hlo _ h.pj.1⟩
theorem ConsV.cells (h : ConsV w F tag xb st x lb sb pb g b jb) : w.cell? ⟨xb, 0, none⟩ = some (.pointer (some ⟨lb, 0, none⟩)) ∧ w.cell? ⟨xb, 1, none⟩ = some (.string x.c.name) ∧ w.cell? ⟨xb, 11, none⟩ = some (.pointer (some ⟨sb, 0, none⟩)) ∧ w.cell? ⟨xb, 12, none⟩ = some (.pointer (some ⟨pb, 0, none⟩)) ∧ w.cell? ⟨xb, 13, none⟩ = some (.pointer (some ⟨jb, 0, none⟩)) :=
  ⟨h.top.cell 0, h.top.cell 1, h.top.cell 11, h.top.cell 12, h.top.cell 13⟩
set_option maxRecDepth 100000 in
theorem cmade (h : ConsV w F tag xb st x lb sb pb g b jb) : Calls Tryz.prog 61 #[.pointer (some ⟨xb, 0, none⟩)] w fun e w' => e = .returned (.bool true) ∧ w' = w := by
  obtain ⟨c0, c1, c2, c3, c4⟩ := h.cells
  clear h
  go_enter Tryz.func61, Tryz.ntmps61
  go_wp2_with fail
  go_ret
  exact ⟨rfl, rfl⟩
set_option maxRecDepth 100000 in
theorem cpast (h : ConsV w F tag xb st x lb sb pb g b jb) : Calls Tryz.prog 21 #[.pointer (some ⟨xb, 0, none⟩)] w fun e w' => e = .returned (.pointer (some ⟨pb, 0, none⟩)) ∧ w' = w := by
  have HM := Lib.hid (cmade h)
  obtain ⟨c0, c1, c2, c3, c4⟩ := h.cells
  clear h
  go_enter Tryz.func21, Tryz.ntmps21
  go_wp2_with fail
  refine HM.out.mono ?_
  rintro e w2 ⟨rfl, hw⟩
  obtain rfl : w = w2 := hw.symm
  go_wp2_with fail
  go_ret
  exact ⟨rfl, rfl⟩
set_option maxRecDepth 100000 in
theorem cseat (h : ConsV w F tag xb st x lb sb pb g b jb) : Calls Tryz.prog 24 #[.pointer (some ⟨xb, 0, none⟩)] w fun e w' => e = .returned (.pointer (some ⟨sb, 0, none⟩)) ∧ w' = w := by
  have HM := Lib.hid (cmade h)
  obtain ⟨c0, c1, c2, c3, c4⟩ := h.cells
  clear h
  go_enter Tryz.func24, Tryz.ntmps24
  go_wp2_with fail
  refine HM.out.mono ?_
  rintro e w2 ⟨rfl, hw⟩
  obtain rfl : w = w2 := hw.symm
  go_wp2_with fail
  go_ret
  exact ⟨rfl, rfl⟩
set_option maxRecDepth 100000 in
theorem cname (h : ConsV w F tag xb st x lb sb pb g b jb) : Calls Tryz.prog 38 #[.pointer (some ⟨xb, 0, none⟩)] w fun e w' => e = .returned (.string x.c.name) ∧ w' = w := by
  have HM := Lib.hid (cmade h)
  obtain ⟨c0, c1, c2, c3, c4⟩ := h.cells
  clear h
  go_enter Tryz.func38, Tryz.ntmps38
  go_wp2_with fail
  refine HM.out.mono ?_
  rintro e w2 ⟨rfl, hw⟩
  obtain rfl : w = w2 := hw.symm
  go_wp2_with fail
  go_ret
  exact ⟨rfl, rfl⟩
/-- why somebody may not write; 0: they may -/
def writesC (s : Sea) (who : Int) : Int := if s.wr ≠ -1 ∧ s.wr = who then 0 else 10
set_option maxRecDepth 100000 in
theorem cwrites (h : ConsV w F tag xb st x lb sb pb g b jb) (who : Int) : Calls Tryz.prog 78 #[.pointer (some ⟨xb, 0, none⟩), .int .i64 who] w fun e w' => e = .returned (.int .i64 (writesC x.s who)) ∧ w' = w := by
  have HM := Lib.hid (cmade h)
  have HW := Lib.hid (swriter h.seat)
  obtain ⟨c0, c1, c2, c3, c4⟩ := h.cells
  clear h
  obtain ⟨wr, hwr⟩ : ∃ wr, wr = x.s.wr := ⟨_, rfl⟩
  unfold writesC
  rw [← hwr] at HW ⊢
  clear hwr
  by_cases h1 : wr = -1
  · rw [if_pos h1, h1] at HW
    rw [if_neg (fun e => e.1 h1)]
    clear h1
    go_enter Tryz.func78, Tryz.ntmps78
    go_wp2_with fail
    refine HM.out.mono ?_
    rintro e w2 ⟨rfl, hw⟩
    obtain rfl : w = w2 := hw.symm
    go_wp2_with fail
    refine HW.out.mono ?_
    rintro e w2 ⟨rfl, hw⟩
    obtain rfl : w = w2 := hw.symm
    go_wp2_with fail
    go_ret
    exact ⟨rfl, rfl⟩
  · rw [if_neg h1, decide_eq_true h1] at HW
    by_cases h2 : wr = who
    · rw [if_pos ⟨h1, h2⟩]
      have hb : (wr != who) = false := by simp [h2]
      clear h1 h2
      go_enter Tryz.func78, Tryz.ntmps78
      go_wp2_with fail
      refine HM.out.mono ?_
      rintro e w2 ⟨rfl, hw⟩
      obtain rfl : w = w2 := hw.symm
      go_wp2_with fail
      refine HW.out.mono ?_
      rintro e w2 ⟨rfl, hw⟩
      obtain rfl : w = w2 := hw.symm
      go_wp2_with fail
      go_ret
      exact ⟨rfl, rfl⟩
    · rw [if_neg (fun e => h2 e.2)]
      have hb : (wr != who) = true := by simpa using h2
      clear h1 h2
      go_enter Tryz.func78, Tryz.ntmps78
      go_wp2_with fail
      refine HM.out.mono ?_
      rintro e w2 ⟨rfl, hw⟩
      obtain rfl : w = w2 := hw.symm
      go_wp2_with fail
      refine HW.out.mono ?_
      rintro e w2 ⟨rfl, hw⟩
      obtain rfl : w = w2 := hw.symm
      go_wp2_with fail
      go_ret
      exact ⟨rfl, rfl⟩
end
end Go.Proofs.YtkmpdobojgiegaaGreatDoor

/-
  console: Type, Press, Replay, Save, Note.
-/
namespace Go.Proofs.YtkmpdobojgiegaaGreatDoor
open Go.RowKit

def typeC (x : Cns) (who : Int) (s : List UInt8) : Cns × List OutP × Int :=
  if writesC x.s who ≠ 0 then (x, [], writesC x.s who)
  else if (sendL x.m s).2.2 = true then ({ x with m := (sendL x.m s).1 }, (sendL x.m s).2.1, 0)
  else if 3 ≤ (sendL x.m s).1.st then ({ x with m := (sendL x.m s).1 }, [], 6) else ({ x with m := (sendL x.m s).1 }, [], 9)
section
variable {w0 w w' : World} {F G S FT : Nat → Prop} {tag : Nat → Nat} {xb st lb sb pb g b jb n : Nat} {x : Cns} {most : Int} {bad : Nat} {l : List SFile}
/-- nothing befell it -/
theorem ConsV.same (h : ConsV w F tag xb st x lb sb pb g b jb) (k : Keeps (fun _ => False) w w') (j : Nat) : ConsV w' (Ext F w w') (tagE tag w j) xb st x lb sb pb g b jb := by
  have hI := h.inn.ext k.size
  exact ⟨h.top.keeps k (fun h => h), (h.line.keeps k (fun _ _ h => h)).mono (fun i hi => hi.old h.inn) hI.pt, (h.seat.keeps k (fun _ _ h => h)).mono (fun i hi => hi.old h.inn) hI.pt, h.past.keeps k (fun h => h) (fun h => h) (fun h => h), h.log.keeps k (fun h => h), ⟨h.pp.1.old h.inn, h.pp.2.1.old h.inn, h.pp.2.2.old h.inn⟩, h.pj.old h.inn, h.px.old h.inn, hI, h.ok⟩
set_option maxRecDepth 100000 in
theorem ctype (h : ConsV w F tag xb st x lb sb pb g b jb) (who : Int) (s : List UInt8) (hs : s.length ≤ 1048576) : Calls Tryz.prog 30 #[.pointer (some ⟨xb, 0, none⟩), .int .i64 who, .string (str s)] w fun e w' =>
    ∃ v, e = .returned (.tuple #[v, .int .i64 (typeC x who s).2.2]) ∧ OwnS outR 2 w' w.heap.size 98 v (typeC x who s).2.1 ∧ ConsV w' (Ext F w w') (tagE tag w 1) xb st (typeC x who s).1 lb sb pb g b jb ∧ Keeps F w w' := by
  have HV := Lib.hid h
  have HW := Lib.hid (cwrites h who)
  have HS := Lib.hid (lsend h.line h.ok s hs)
  obtain ⟨c0, c1, c2, c3, c4⟩ := h.cells
  obtain ⟨R, hR⟩ : ∃ R, R = sendL x.m s := ⟨_, rfl⟩
  obtain ⟨T, hT⟩ : ∃ T, T = typeC x who s := ⟨_, rfl⟩
  have hT2 : T = if writesC x.s who ≠ 0 then (x, [], writesC x.s who) else if R.2.2 = true then ({ x with m := R.1 }, R.2.1, 0) else if 3 ≤ R.1.st then ({ x with m := R.1 }, [], 6) else ({ x with m := R.1 }, [], 9) := by rw [hT, hR]; rfl
  have HOK := Lib.hid (show LnOk R.1 from by rw [hR]; exact h.ok.send s)
  rw [← hR] at HS
  rw [← hT]
  have HT := Lib.hid hT2
  clear h hR hT hT2
  obtain ⟨c, hc⟩ : ∃ c, c = writesC x.s who := ⟨_, rfl⟩
  rw [← hc] at HW HT
  clear hc
  by_cases h0 : c = 0
  · subst h0
    cases hr : R.2.2 with
    | true =>
      have HTT : Hid (T = ({ x with m := R.1 }, R.2.1, 0)) := Lib.hid (by rw [HT.out, if_neg (by simp), if_pos hr])
      rw [hr] at HS
      clear hr
      go_enter Tryz.func30, Tryz.ntmps30
      go_wp2_with fail
      refine HW.out.mono ?_
      rintro e w2 ⟨rfl, hw⟩
      obtain rfl : w = w2 := hw.symm
      go_wp2_with fail
      refine HS.out.mono ?_
      rintro e w2 ⟨v, rfl, hX⟩
      have HX := Lib.hid hX
      clear hX c0
      go_wp2_with fail
      go_ret2
      rw [HTT.out]
      have kF : Keeps F w w2 := HX.out.2.2.mono fun _ _ e => e.1
      exact ⟨_, rfl, HX.out.1, HV.out.lined HX.out.2.1 HX.out.2.2 HOK.out, kF⟩
    | false =>
      rw [hr] at HS
      by_cases h3 : 3 ≤ R.1.st
      · have HTT : Hid (T = ({ x with m := R.1 }, [], 6)) := Lib.hid (by rw [HT.out, if_neg (by simp), hr, if_neg (by simp), if_pos h3])
        have H3 := Lib.hid h3
        clear hr h3
        go_enter Tryz.func30, Tryz.ntmps30
        go_wp2_with fail
        refine HW.out.mono ?_
        rintro e w2 ⟨rfl, hw⟩
        obtain rfl : w = w2 := hw.symm
        go_wp2_with fail
        refine HS.out.mono ?_
        rintro e w2 ⟨v, rfl, hX⟩
        have hV2 := HV.out.lined hX.2.1 hX.2.2 HOK.out
        obtain ⟨d0, -⟩ := hV2.cells
        have HST := Lib.hid (lstate hV2.line)
        have HX := Lib.hid hX
        have HV2 := Lib.hid hV2
        have h3 : 3 ≤ R.1.st := H3.out
        obtain ⟨sst, hst⟩ : ∃ sst, sst = R.1.st := ⟨_, rfl⟩
        change Hid (Calls _ _ _ _ fun e w' => e = .returned (.int .i64 R.1.st) ∧ w' = w2) at HST
        rw [← hst] at HST h3
        clear hX hV2 c0 hst
        go_wp2_with fail
        refine HST.out.mono ?_
        rintro e w3 ⟨rfl, hw⟩
        obtain rfl : w2 = w3 := hw.symm
        go_wp2_with fail
        go_ret2
        rw [HTT.out]
        exact ⟨_, rfl, OwnS.none_, HV2.out, HX.out.2.2.mono fun _ _ e => e.1⟩
      · have HTT : Hid (T = ({ x with m := R.1 }, [], 9)) := Lib.hid (by rw [HT.out, if_neg (by simp), hr, if_neg (by simp), if_neg h3])
        have H3 := Lib.hid (show R.1.st < 3 by omega)
        clear hr h3
        go_enter Tryz.func30, Tryz.ntmps30
        go_wp2_with fail
        refine HW.out.mono ?_
        rintro e w2 ⟨rfl, hw⟩
        obtain rfl : w = w2 := hw.symm
        go_wp2_with fail
        refine HS.out.mono ?_
        rintro e w2 ⟨v, rfl, hX⟩
        have hV2 := HV.out.lined hX.2.1 hX.2.2 HOK.out
        obtain ⟨d0, -⟩ := hV2.cells
        have HST := Lib.hid (lstate hV2.line)
        have HX := Lib.hid hX
        have HV2 := Lib.hid hV2
        have h3 : R.1.st < 3 := H3.out
        obtain ⟨sst, hst⟩ : ∃ sst, sst = R.1.st := ⟨_, rfl⟩
        change Hid (Calls _ _ _ _ fun e w' => e = .returned (.int .i64 R.1.st) ∧ w' = w2) at HST
        rw [← hst] at HST h3
        clear hX hV2 c0 hst
        go_wp2_with fail
        refine HST.out.mono ?_
        rintro e w3 ⟨rfl, hw⟩
        obtain rfl : w2 = w3 := hw.symm
        go_wp2_with fail
        go_ret2
        rw [HTT.out]
        exact ⟨_, rfl, OwnS.none_, HV2.out, HX.out.2.2.mono fun _ _ e => e.1⟩
  · have HTT : Hid (T = (x, [], c)) := Lib.hid (by rw [HT.out, if_pos h0])
    have hb : (c != 0) = true := by simpa using h0
    clear h0
    go_enter Tryz.func30, Tryz.ntmps30
    go_wp2_with fail
    refine HW.out.mono ?_
    rintro e w2 ⟨rfl, hw⟩
    obtain rfl : w = w2 := hw.symm
    go_wp2_with fail
    go_ret2
    rw [HTT.out]
    exact ⟨_, rfl, OwnS.none_, HV.out.same (Keeps.refl _ _) 1, Keeps.refl _ _⟩
/-- where the last lines of what is kept begin -/
def backC (A : List UInt8) (lines : Int) : Nat := (A.length - 32768) + backN (A.drop (A.length - 32768)) (A.length - (A.length - 32768)) lines.toNat
set_option maxRecDepth 100000 in
theorem creplay (h : ConsV w F tag xb st x lb sb pb g b jb) (lines : Int) (hA : x.past.length ≤ 2305843009213693952) (hL : lines ≤ 4611686018427387904) : Calls Tryz.prog 36 #[.pointer (some ⟨xb, 0, none⟩), .int .i64 lines] w fun e w' =>
    e = .returned (.tuple #[.int .i64 (backC x.past lines : Nat), .int .i64 x.past.length]) ∧ Keeps (fun _ => False) w w' := by
  have HP := Lib.hid (cpast h)
  have HB := Lib.hid (pback_yes w pb g b 32768 x.past lines h.past hA hL)
  have HC := Lib.hid (fun W (k : Keeps (fun _ => False) w W) => pcame_yes W pb g b 32768 x.past (h.past.keeps k (fun h => h) (fun h => h) (fun h => h)))
  obtain ⟨R, hR⟩ : ∃ R, R = backC x.past lines := ⟨_, rfl⟩
  rw [← hR]
  change Hid (Calls _ _ _ _ fun e w' => e = .returned (.int .i64 (backC x.past lines : Nat)) ∧ Keeps (fun _ => False) w w') at HB
  rw [← hR] at HB
  obtain ⟨A, hA2⟩ : ∃ A, A = x.past.length := ⟨_, rfl⟩
  rw [← hA2] at HC ⊢
  clear h hR hA2 hA hL
  go_enter Tryz.func36, Tryz.ntmps36
  go_wp2_with fail
  refine HP.out.mono ?_
  rintro e w2 ⟨rfl, hw⟩
  obtain rfl : w = w2 := hw.symm
  go_wp2_with fail
  refine HB.out.mono ?_
  rintro e w2 ⟨rfl, k2⟩
  have HK2 := Lib.hid k2
  clear k2
  go_wp2_with fail
  refine (Qt.k (HC.out _ HK2.out)).mono ?_
  rintro e w3 ⟨rfl, k3⟩
  have HK3 := Lib.hid k3
  clear k3
  go_wp2_with fail
  go_ret2
  exact ⟨rfl, HK2.out.trans HK3.out⟩
set_option maxRecDepth 100000 in
theorem csave (h : ConsV w F tag xb st x lb sb pb g b jb) (hS : StoF w0 w FT st most bad l n) (hap : Apart F FT) (hlo : ∀ i, F i → w0.heap.size ≤ i) (hn : n ≤ 999000) : Calls Tryz.prog 14 #[.pointer (some ⟨xb, 0, none⟩)] w fun e w' =>
    e = .returned (.bool (syncJ (baseOf x.c) ⟨bad, l, x.rest, x.lost⟩).2) ∧ ConsV w' F tag xb st { x with rest := (syncJ (baseOf x.c) ⟨bad, l, x.rest, x.lost⟩).1.rest, lost := (syncJ (baseOf x.c) ⟨bad, l, x.rest, x.lost⟩).1.lost } lb sb pb g b jb ∧
    StoF w0 w' (Ext FT w w') st most (syncJ (baseOf x.c) ⟨bad, l, x.rest, x.lost⟩).1.bad (syncJ (baseOf x.c) ⟨bad, l, x.rest, x.lost⟩).1.l (n + 19) ∧ Keeps (fun i => FT i ∨ i = jb) w w' := by
  have HV := Lib.hid h
  have HM := Lib.hid (cmade h)
  have HJ := Lib.hid (jsyncF (h.logF hS hlo) hn)
  have HAP := Lib.hid hap
  obtain ⟨c0, c1, c2, c3, c4⟩ := h.cells
  obtain ⟨R, hR⟩ : ∃ R, R = syncJ (baseOf x.c) ⟨bad, l, x.rest, x.lost⟩ := ⟨_, rfl⟩
  rw [← hR] at HJ ⊢
  clear h hS hap hlo hn hR
  go_enter Tryz.func14, Tryz.ntmps14
  go_wp2_with fail
  refine HM.out.mono ?_
  rintro e w2 ⟨rfl, hw⟩
  obtain rfl : w = w2 := hw.symm
  go_wp2_with fail
  refine HJ.out.mono ?_
  rintro e w2 ⟨rfl, hL2, k2⟩
  have HL := Lib.hid hL2
  have HK := Lib.hid k2
  clear hL2 k2
  go_wp2_with fail
  go_ret
  exact ⟨rfl, HV.out.logged HL.out.2.1 HK.out HAP.out, HL.out.1, HK.out⟩
end
end Go.Proofs.YtkmpdobojgiegaaGreatDoor

/-
  console: Note, Came.
-/
namespace Go.Proofs.YtkmpdobojgiegaaGreatDoor
open Go.RowKit

/-- what is written down of a text: its pieces -/
def chunks : Nat → List UInt8 → List (List UInt8)
  | 0, _ => []
  | f + 1, s => if s = [] then [] else s.take 4096 :: chunks f (s.drop 4096)
def chunksOf (s : List UInt8) : List (List UInt8) := chunks s.length s
/-- what a log is behind pieces -/
def putsJ (mst : Int) (base : ByteArray) (k size : Nat) (now : Int) (j : Jp) (l : List (List UInt8)) : Jp := l.foldl (fun j c => (addJ mst base k size j ⟨1, now, str c⟩).1) j
theorem add_lost (mst : Int) (base : ByteArray) (k size : Nat) (j : Jp) (x : Itm) : (addJ mst base k size j x).1.lost ≤ j.lost + 1 := by
  unfold addJ
  split
  · exact Nat.le_refl _
  · split
    · exact Nat.le_succ _
    · exact Nat.le_refl _
/-- a console and its log behind an act of the log -/
def Cns.log (x : Cns) (j : Jp) : Cns := { x with rest := j.rest, lost := j.lost }
theorem dataI_ok {now : Int} (h : 0 ≤ now ∧ now ≤ 1099511627776) {s : List UInt8} (hs : s.length ≤ 4096) : (⟨1, now, str s⟩ : Itm).ok := by
  refine ⟨⟨by show (1 : Int) ≤ 1; omega, by show (1 : Int) ≤ 15; omega⟩, h, ?_⟩
  show (str s).size ≤ 4096
  rw [str_size]; omega
theorem strx_take (s : List UInt8) (n : Nat) : (str s).extract 0 n = str (s.take n) := by
  apply ba_ext
  simp [str, List.extract_eq_take_drop]
theorem ext_min (t : ByteArray) : t.extract 0 4096 = t.extract 0 (min (t.size : Int) 4096).toNat := by
  have h : t.data.toList.length = t.size := by simp
  by_cases hb : t.size ≤ 4096
  · rw [show (min (t.size : Int) 4096).toNat = t.size by omega]
    apply ba_ext
    simp only [ByteArray.data_extract, Array.toList_extract, List.extract_eq_take_drop, List.drop_zero, Nat.sub_zero]
    rw [List.take_of_length_le (by omega), List.take_of_length_le (by omega)]
  · rw [show (min (t.size : Int) 4096).toNat = 4096 by omega]
theorem strx_drop (s : List UInt8) (n : Nat) : (str s).extract n (str s).size = str (s.drop n) := by
  apply ba_ext
  rw [ext_list]
  rfl
section
variable {w0 w w' : World} {F G S FT : Nat → Prop} {tag : Nat → Nat} {xb st lb sb pb g b jb n : Nat} {x : Cns} {most : Int} {bad : Nat} {l : List SFile}
end
end Go.Proofs.YtkmpdobojgiegaaGreatDoor

/-
  restore.Begin: what comes begins a generation.
-/
namespace Go.Proofs.YtkmpdobojgiegaaGreatDoor
open Go.RowKit

/-- what a log's store is behind Begin: nothing, or a turn, where there is a newest generation -/
def beginP (base : ByteArray) (j bad : Nat) (l : List SFile) : Int × Nat × List SFile := match getG SFile.name base l with
  | none => (0, bad, l)
  | some _ => turnP base j bad l
section
variable [Res] {w0 w w' : World} {s M bad n : Nat} {most : Int} {L : List SRep}
set_option maxRecDepth 100000 in
theorem resbegin_any (h : Sto w0 w s M most bad L n) (hn : n ≤ 1000000) (base : ByteArray) (k : Int) (hb : base.size ≤ 1048576) :
    Calls Tryz.prog 115 #[.pointer (some ⟨s, 0, none⟩), .string base, .int .i64 k] w (Turned w0 w s M most n (beginP base (heldP k - 1) bad (L.map SRep.f))) := by
  unfold beginP
  cases hg : getG SFile.name base (L.map SRep.f) with
  | none =>
    have HR := Lib.hid (sread_none h (nm := base) (by unfold maxLen; omega) hg)
    have H := Lib.hid h
    simp only
    clear h hg
    go_enter Tryz.func115, Tryz.ntmps115
    go_wp2_with fail
    refine HR.out.mono ?_
    rintro e w2 ⟨rfl, hw⟩
    obtain rfl : w = w2 := hw.symm
    go_wp2_with fail
    go_ret
    exact ⟨_, L, rfl, ErrV.ok, H.out.le_n (by omega) (by omega), rfl, Keeps.refl _ _⟩
  | some f =>
    have HR := Lib.hid (sread_some h (nm := base) (by unfold maxLen; omega) hg)
    have HT := Lib.hid (gturn_any h hn base k hb)
    simp only
    obtain ⟨R, hR⟩ : ∃ R, R = turnP base (heldP k - 1) bad (L.map SRep.f) := ⟨_, rfl⟩
    rw [← hR] at HT ⊢
    clear h hg hR
    go_enter Tryz.func115, Tryz.ntmps115
    go_wp2_with fail
    refine HR.out.mono ?_
    rintro e w2 ⟨rfl, hw⟩
    obtain rfl : w = w2 := hw.symm
    go_wp2_with fail
    refine HT.out.mono ?_
    rintro e w2 ⟨v, L2, rfl, h2⟩
    have H2 := Lib.hid h2
    clear h2 HT HR
    go_wp2_with fail
    go_ret
    exact ⟨v, L2, rfl, H2.out⟩
end
end Go.Proofs.YtkmpdobojgiegaaGreatDoor
