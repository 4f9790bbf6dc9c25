/-
  The document's text of layers, and an error made of layers (wheelhouselaw09.made).
-/
import Derived.Test.YtngjppckobfdeaaDoorRef09
import Derived.Test.YtngjppckobfdeaaDoorFltC
namespace Go.Proofs.YtngjppckobfdeaaDoor
open Go.RowKit

def rstep (s : List UInt8) (x : L09) : List UInt8 :=
  let s1 := if 0 < x.line then withP s ([108, 105, 110, 101, 32] ++ dec x.line) else s
  let s2 := withP s1 x.what.data.toList
  if x.code ≠ 0 then withP s2 (wordOf x.code).data.toList else s2
theorem withP_len (s t : List UInt8) : (withP s t).length ≤ s.length + t.length + 2 := by
  unfold withP; split <;> simp <;> omega
/-- what may be asked of a layer -/
def Fine (x : L09) : Prop := (-9223372036854775808 ≤ x.code ∧ x.code ≤ 9223372036854775807) ∧ (-9223372036854775808 ≤ x.line ∧ x.line ≤ 9223372036854775807) ∧ x.what.size ≤ 1000

set_option maxRecDepth 100000 in
set_option maxHeartbeats 2000000 in
theorem rtext_any (w : World) (a : Option Addr) (n cap : Nat) (l : List L09) (h : SlAt layR 3 w a n l) (hn : n ≤ 1000) (hf : ∀ x ∈ l, Fine x) :
    Calls Tryd.prog 26 #[.slice a n cap] w fun e w' => e = .returned (.string (str (l.foldl rstep []))) ∧ Keeps (fun _ => False) w w' := by
  obtain ⟨hl, hcs⟩ := h
  have HC := Lib.hid hcs
  have HF := Lib.hid hf
  clear hcs hf
  go_enter Tryd.func26, Tryd.ntmps26
  go_wp2_with fail
  go_loopw [3, 4] (fun u3 u4 wr => ∃ (k : Nat) (s : List UInt8), k ≤ n ∧ u4 = .int .i64 k ∧ u3 = .string (str s) ∧ s.length ≤ k * 1100 ∧ (l.drop k).foldl rstep s = l.foldl rstep [] ∧ Keeps (fun _ => False) w wr) (fun _ u4 _ => n - (intOf u4).toNat)
  case atStart => exact ⟨0, [], by omega, rfl, rfl, by simp, rfl, Keeps.refl _ _⟩
  case round =>
    obtain ⟨k, s, hk, rfl, rfl, hsl, ho, hK⟩ := hrel
    by_cases hlt : k < n
    · obtain ⟨b, off, rfl, hb, hc⟩ := HC.out (by omega)
      obtain ⟨x, hx⟩ : ∃ x, l[k]? = some x := ⟨_, List.getElem?_eq_getElem (by omega)⟩
      have hcell : ∀ w', Keeps (fun _ => False) w w' → w'.cell? ⟨b, off + k * 3, none⟩ = some (.int .i64 x.code) ∧ w'.cell? ⟨b, off + k * 3 + 1, none⟩ = some (.int .i64 x.line) ∧ w'.cell? ⟨b, off + k * 3 + 2, none⟩ = some (.string x.what) := fun w' kk => by
        have hbb := kk.block b hb id
        obtain ⟨c0, c1, c2⟩ := SlAt.cells3 hc k x hx _ _ _ rfl
        exact ⟨(World.cell?_of_block (w := w) hbb).trans c0, (World.cell?_of_block (w := w) hbb).trans c1, (World.cell?_of_block (w := w) hbb).trans c2⟩
      have HX := Lib.hid hcell
      have hfx := HF.out x (List.mem_of_getElem? hx)
      obtain ⟨⟨hc1, hc2⟩, ⟨hl1, hl2⟩, hw⟩ := hfx
      rw [drop_at hx, List.foldl_cons] at ho
      have HO := Lib.hid ho
      obtain ⟨c0, c1, c2⟩ := hcell wr hK
      have hss : (str s).size ≤ 1100 * 1000 := by rw [str_size]; omega
      have hww : (wordOf x.code).size ≤ 25 := wordOf_len _ hc1 hc2
      have hwl : (wordOf x.code).data.toList.length ≤ 25 := by simpa using hww
      have hxl : x.what.data.toList.length ≤ 1000 := by simpa using hw
      have hdl : (dec x.line).length ≤ 20 := dec_le hl1 hl2
      have hds : ((str (dec x.line)).size : Int) ≤ 20 := by rw [str_size]; omega
      clear ho hc hx hcell
      have hS1 : (if 0 < x.line then withP s ([108, 105, 110, 101, 32] ++ dec x.line) else s).length ≤ s.length + 27 := by
        split
        · have := withP_len s ([108, 105, 110, 101, 32] ++ dec x.line)
          simp only [List.length_append, List.length_cons, List.length_nil] at this; omega
        · omega
      obtain ⟨s1, hs1⟩ : ∃ s1, s1 = (if 0 < x.line then withP s ([108, 105, 110, 101, 32] ++ dec x.line) else s) := ⟨_, rfl⟩
      rw [← hs1] at hS1
      have hS2 := withP_len s1 x.what.data.toList
      obtain ⟨s2, hs2⟩ : ∃ s2, s2 = withP s1 x.what.data.toList := ⟨_, rfl⟩
      rw [← hs2] at hS2
      have hS3 := withP_len s2 (wordOf x.code).data.toList
      have hst : rstep s x = if x.code ≠ 0 then withP s2 (wordOf x.code).data.toList else s2 := by rw [hs2, hs1]; rfl
      have HS1 := Lib.hid hs1
      have HS2 := Lib.hid hs2
      have HST := Lib.hid hst
      have hs1s : (str s1).size ≤ 1100 * 1000 + 27 := by rw [str_size]; omega
      have hs2s : (str s2).size ≤ 1100 * 1000 + 2000 := by rw [str_size]; omega
      have hline : (str ([108, 105, 110, 101, 32] ++ dec x.line)).size ≤ 25 := by rw [str_size]; simp; omega
      have HLN : Hid (({ data := #[108, 105, 110, 101, 32] } : ByteArray) ++ str (dec x.line) = str ([108, 105, 110, 101, 32] ++ dec x.line)) := Lib.hid (ba_ext (by rw [append_str', str_list, str_list]))
      clear hs1 hs2 hst hwl hxl hdl
      have hlen3 : ∀ t : List UInt8, t = rstep s x → t.length ≤ (k + 1) * 1100 := by
        intro t ht
        rw [ht, HST.out]
        have e1 := hS1; have e2 := hS2; have e3 := hS3
        have e4 : x.what.data.toList.length ≤ 1000 := by simpa using hw
        have e5 : (wordOf x.code).data.toList.length ≤ 25 := by simpa using hww
        have e6 : (k + 1) * 1100 = k * 1100 + 1100 := by omega
        split <;> omega
      have HL3 := Lib.hid hlen3
      clear hlen3
      by_cases hp : 0 < x.line
      · have HS1' : Hid (str (withP s ([108, 105, 110, 101, 32] ++ dec x.line)) = str s1) := Lib.hid (by rw [HS1.out, if_pos hp])
        go_wp2_with fail
        refine (rput_any _ _ x.line (Nat.le_refl _) hl1 hl2).mono ?_
        rintro e w2 ⟨rfl, k2⟩
        go_wp2_with fail
        rw [HLN.out]
        refine (rwith_any _ _ _ (by omega) (by omega)).mono ?_
        rintro e w3 ⟨rfl, rfl⟩
        rw [str_list, str_list, HS1'.out]
        have K2 := hK.trans k2
        obtain ⟨d0, d1, d2⟩ := HX.out _ K2
        go_wp2_with fail
        refine (rwith_any _ _ _ (by omega) (by omega)).mono ?_
        rintro e w4 ⟨rfl, rfl⟩
        rw [str_list, ← HS2.out]
        by_cases hz : x.code = 0
        · have h1 : (x.code != 0) = false := by simpa using hz
          have HZ := Lib.hid hz
          clear hz
          go_wp2_with fail
          go_roundw
          case rel => exact ⟨k + 1, s2, by omega, by go_num, rfl, HL3.out _ (by rw [HST.out, if_neg (by simpa using HZ.out)]), by rw [← HO.out, HST.out, if_neg (by simpa using HZ.out)], K2⟩
          case measure => simp [intOf]; omega
        · have h1 : (x.code != 0) = true := by simpa using hz
          go_wp2_with fail
          refine (rword_any _ x.code hc1 hc2).mono ?_
          rintro e w5 ⟨rfl, k5⟩
          go_wp2_with fail
          refine (rwith_any _ _ _ (by omega) (by omega)).mono ?_
          rintro e w6 ⟨rfl, rfl⟩
          rw [str_list]
          go_wp2_with fail
          go_roundw
          case rel => exact ⟨k + 1, _, by omega, by go_num, rfl, HL3.out _ (by rw [HST.out, if_pos hz]), by rw [← HO.out, HST.out, if_pos hz], K2.trans k5⟩
          case measure => simp [intOf]; omega
      · have HS1' : Hid (s1 = s) := Lib.hid (by rw [HS1.out, if_neg hp])
        have hp2 : x.line ≤ 0 := by omega
        have K2 := hK
        rw [← HS1'.out]
        go_wp2_with fail
        refine (rwith_any _ _ _ (by omega) (by omega)).mono ?_
        rintro e w4 ⟨rfl, rfl⟩
        rw [str_list, ← HS2.out]
        by_cases hz : x.code = 0
        · have h1 : (x.code != 0) = false := by simpa using hz
          have HZ := Lib.hid hz
          clear hz
          go_wp2_with fail
          go_roundw
          case rel => exact ⟨k + 1, s2, by omega, by go_num, rfl, HL3.out _ (by rw [HST.out, if_neg (by simpa using HZ.out)]), by rw [← HO.out, HST.out, if_neg (by simpa using HZ.out)], K2⟩
          case measure => simp [intOf]; omega
        · have h1 : (x.code != 0) = true := by simpa using hz
          go_wp2_with fail
          refine (rword_any _ x.code hc1 hc2).mono ?_
          rintro e w5 ⟨rfl, k5⟩
          go_wp2_with fail
          refine (rwith_any _ _ _ (by omega) (by omega)).mono ?_
          rintro e w6 ⟨rfl, rfl⟩
          rw [str_list]
          go_wp2_with fail
          go_roundw
          case rel => exact ⟨k + 1, _, by omega, by go_num, rfl, HL3.out _ (by rw [HST.out, if_pos hz]), by rw [← HO.out, HST.out, if_pos hz], K2.trans k5⟩
          case measure => simp [intOf]; omega
    · have hke : k = n := by omega
      subst hke
      rw [List.drop_of_length_le (by omega)] at ho
      have HO := Lib.hid ho
      clear ho
      go_wp2_with fail
      go_ret
      exact ⟨by rw [← HO.out]; rfl, hK⟩

theorem both {p q : Prop} (f : q → p) (h : q) : p ∧ q := ⟨f h, h⟩
/-- an error of layers: none, if the last one's code is 0 -/
theorem made_any (w : World) (a : Option Addr) (cap : Nat) (l : List L09) (last : L09) (h : SlAt layR 3 w a (l.length + 1) (l ++ [last])) (hn : l.length ≤ 1000) :
    Calls Tryd.prog 21 #[.slice a (l.length + 1 : Nat) cap] w fun e w' => Keeps (fun _ => False) w w' ∧
      ((last.code = 0 ∧ e = .returned .nilIface) ∨ (last.code ≠ 0 ∧ ∃ v, e = .returned v ∧ Chain w' ((l ++ [last]).map fun x => (x.line, x.what)) last.code v)) := by
  obtain ⟨hl, hcs⟩ := h
  obtain ⟨b, off, rfl, hb, hc⟩ := hcs (by omega)
  have HC := Lib.hid hc
  obtain ⟨c0, c1, c2⟩ := SlAt.cells3 hc l.length last (by simp) _ _ _ rfl
  clear hcs hc hl
  obtain ⟨m, hm⟩ : ∃ m, m = l.length := ⟨_, rfl⟩
  rw [← hm] at c0 c1 c2 ⊢
  have HM := Lib.hid hm
  have hi0 : (0 : Int) ≤ (m : Int) := by omega
  have hi1 : (m : Int) < (m : Int) + 1 := by omega
  have hm1 : m ≤ 1000 := by omega
  clear hm hn
  by_cases hz0 : last.code = 0
  · rw [hz0] at c0
    go_enter Tryd.func21, Tryd.ntmps21
    go_wp2_with fail
    go_region_held3 (fun w' => (w'.cell? ⟨b, off + m * 3, none⟩ = some (.int .i64 0) ∧ w'.cell? ⟨b, off + m * 3 + 1, none⟩ = some (.int .i64 last.line) ∧ w'.cell? ⟨b, off + m * 3 + 2, none⟩ = some (.string last.what)) ∧ Keeps (fun _ => False) w w')
      ((exact ⟨⟨c0, c1, c2⟩, by (repeat (first | (with_reducible assumption) | (with_reducible exact Keeps.refl _ _) | refine Keeps.drew ?_ | refine Keeps.drewN ?_ _ | refine Keeps.setCell ?_ (by simp) _ | refine Keeps.setRow ?_ (by simp) _ | refine Keeps.alloc ?_ _))⟩))
      ((go_at_call 30; rename_i hh _ _; refine (new_nil _ _ _).mono ?_; rintro e w3 ⟨rfl, rfl⟩; have kk := hh.2))
    have kd : Keeps (fun _ => False) w w.drew := (Keeps.refl _ _).drew
    go_wp2_with fail
    go_loopw [4, 5] (fun u4 u5 wr => ∃ (j : Nat) (z : Int), u5 = .int .i64 z ∧ z = (j : Int) - 1 ∧ j ≤ m ∧ u4 = .nilIface ∧ Keeps (fun _ => False) w wr) (fun _ u5 _ => (intOf u5 + 1).toNat)
    case atStart => exact ⟨m, (m : Int) - 1, rfl, rfl, by omega, rfl, kd⟩
    case round =>
      obtain ⟨j, z, rfl, hz, hj, rfl, hK⟩ := hrel
      cases j with
      | zero =>
        obtain rfl : z = -1 := by omega
        clear hz
        go_wp2_with fail
        go_ret
        exact ⟨hK, .inl ⟨hz0, rfl⟩⟩
      | succ q =>
        obtain rfl : z = q := by omega
        clear hz
        obtain ⟨x, hx⟩ : ∃ x, (l ++ [last])[q]? = some x := ⟨_, List.getElem?_eq_getElem (by rw [List.length_append]; have := HM.out; simp; omega)⟩
        obtain ⟨c0, c1, c2⟩ := SlAt.cells3 HC.out q x hx _ _ _ rfl
        have hbb := hK.block b hb id
        have d0 := (World.cell?_of_block (w := w) (a := ⟨b, off + q * 3, none⟩) hbb).trans c0
        have d1 := (World.cell?_of_block (w := w) (a := ⟨b, off + q * 3 + 1, none⟩) hbb).trans c1
        have d2 := (World.cell?_of_block (w := w) (a := ⟨b, off + q * 3 + 2, none⟩) hbb).trans c2
        have hi0 : (0 : Int) ≤ (q : Int) := by omega
        have hi1 : (q : Int) < (m : Int) + 1 := by omega
        have HXQ := Lib.hid hx
        clear hbb c0 c1 c2 hx
        go_wp2_with fail
        go_region_held3 (fun w' => (w'.cell? ⟨b, off + q * 3, none⟩ = some (.int .i64 x.code) ∧ w'.cell? ⟨b, off + q * 3 + 1, none⟩ = some (.int .i64 x.line) ∧ w'.cell? ⟨b, off + q * 3 + 2, none⟩ = some (.string x.what)) ∧ Keeps (fun _ => False) w w')
          ((exact ⟨⟨d0, d1, d2⟩, by (repeat (first | (with_reducible assumption) | (with_reducible exact Keeps.refl _ _) | refine Keeps.drew ?_ | refine Keeps.drewN ?_ _ | refine Keeps.setCell ?_ (by simp) _ | refine Keeps.setRow ?_ (by simp) _ | refine Keeps.alloc ?_ _))⟩))
          ((go_at_call 31; rename_i hh _ _; refine (wrap_nil _ _ _).mono ?_; rintro e w3 ⟨rfl, rfl⟩; have kk := hh.2))
        go_wp2_with fail
        go_roundw
        case rel => exact ⟨q, (q : Int) - 1, rfl, rfl, by omega, rfl, kk⟩
        case measure => simp [intOf] <;> omega
  · have hcw : ∀ w', Keeps (fun _ => False) w w' → w'.cell? ⟨b, off + m * 3, none⟩ = some (.int .i64 last.code) ∧ w'.cell? ⟨b, off + m * 3 + 1, none⟩ = some (.int .i64 last.line) ∧ w'.cell? ⟨b, off + m * 3 + 2, none⟩ = some (.string last.what) := fun w' kk => by
      have hbb := kk.block b hb id
      exact ⟨(World.cell?_of_block (w := w) hbb).trans c0, (World.cell?_of_block (w := w) hbb).trans c1, (World.cell?_of_block (w := w) hbb).trans c2⟩
    have HCW := Lib.hid hcw
    clear hcw
    go_enter Tryd.func21, Tryd.ntmps21
    go_wp2_with fail
    go_region_held3 (fun w' => (w'.cell? ⟨b, off + m * 3, none⟩ = some (.int .i64 last.code) ∧ w'.cell? ⟨b, off + m * 3 + 1, none⟩ = some (.int .i64 last.line) ∧ w'.cell? ⟨b, off + m * 3 + 2, none⟩ = some (.string last.what)) ∧ Keeps (fun _ => False) w w')
      ((refine both (HCW.out _) ?_; (repeat (first | (with_reducible assumption) | (with_reducible exact Keeps.refl _ _) | refine Keeps.drew ?_ | refine Keeps.drewN ?_ _ | refine Keeps.setCell ?_ (by simp) _ | refine Keeps.setRow ?_ (by simp) _ | refine Keeps.alloc ?_ _))))
      ((go_at_call 30; rename_i hh _ _; refine (new_flt _ _ _ _ hz0).mono ?_; rintro e w3 ⟨rfl, hw3⟩; have kd : Keeps (fun _ => False) w w3 := (by rw [hw3]; exact hh.2.alloc _); have HCH : Hid (Chain w3 [(last.line, last.what)] last.code (.iface tPFault (.pointer (some ⟨w.heap.size, 0, none⟩)))) := Lib.hid (.layer _ _ _ _ _ _ (by rw [hw3]; exact Blk.new _ _ _) (.kind _)); clear hw3))
    go_wp2_with fail
    go_loopw [4, 5] (fun u4 u5 wr => ∃ (j : Nat) (z : Int) (v : Value), u5 = .int .i64 z ∧ z = (j : Int) - 1 ∧ j ≤ m ∧ u4 = v ∧ Chain wr (((l ++ [last]).drop j).map fun x => (x.line, x.what)) last.code v ∧ Keeps (fun _ => False) w wr) (fun _ u5 _ => (intOf u5 + 1).toNat)
    case atStart => exact ⟨m, (m : Int) - 1, _, rfl, rfl, by omega, rfl, by have := HM.out; rw [this, List.drop_left]; exact HCH.out, kd⟩
    case round =>
      obtain ⟨j, z, v, rfl, hz, hj, rfl, hch, hK⟩ := hrel
      have HCH2 := Lib.hid hch
      obtain ⟨ty, tx, rfl⟩ := hch.form
      clear hch
      cases j with
      | zero =>
        obtain rfl : z = -1 := by omega
        clear hz
        go_wp2_with fail
        go_ret
        exact ⟨hK, .inr ⟨hz0, _, rfl, HCH2.out⟩⟩
      | succ q =>
        obtain rfl : z = q := by omega
        clear hz
        obtain ⟨x, hx⟩ : ∃ x, (l ++ [last])[q]? = some x := ⟨_, List.getElem?_eq_getElem (by rw [List.length_append]; have := HM.out; simp; omega)⟩
        obtain ⟨c0, c1, c2⟩ := SlAt.cells3 HC.out q x hx _ _ _ rfl
        have hbb := hK.block b hb id
        have d0 := (World.cell?_of_block (w := w) (a := ⟨b, off + q * 3, none⟩) hbb).trans c0
        have d1 := (World.cell?_of_block (w := w) (a := ⟨b, off + q * 3 + 1, none⟩) hbb).trans c1
        have d2 := (World.cell?_of_block (w := w) (a := ⟨b, off + q * 3 + 2, none⟩) hbb).trans c2
        have hi0 : (0 : Int) ≤ (q : Int) := by omega
        have hi1 : (q : Int) < (m : Int) + 1 := by omega
        have HXQ := Lib.hid hx
        have hcq : ∀ w', Keeps (fun _ => False) wr w' → w'.cell? ⟨b, off + q * 3, none⟩ = some (.int .i64 x.code) ∧ w'.cell? ⟨b, off + q * 3 + 1, none⟩ = some (.int .i64 x.line) ∧ w'.cell? ⟨b, off + q * 3 + 2, none⟩ = some (.string x.what) := fun w' kk => by
          have hb2 := kk.block b (Nat.lt_of_lt_of_le hb hK.size) id
          exact ⟨(World.cell?_of_block (w := wr) hb2).trans d0, (World.cell?_of_block (w := wr) hb2).trans d1, (World.cell?_of_block (w := wr) hb2).trans d2⟩
        have HCQ := Lib.hid hcq
        clear hbb c0 c1 c2 hx hcq d0 d1 d2
        go_wp2_with fail
        go_region_held3 (fun w' => (w'.cell? ⟨b, off + q * 3, none⟩ = some (.int .i64 x.code) ∧ w'.cell? ⟨b, off + q * 3 + 1, none⟩ = some (.int .i64 x.line) ∧ w'.cell? ⟨b, off + q * 3 + 2, none⟩ = some (.string x.what)) ∧ Keeps (fun _ => False) wr w')
          ((refine both (HCQ.out _) ?_; (repeat (first | (with_reducible assumption) | (with_reducible exact Keeps.refl _ _) | refine Keeps.drew ?_ | refine Keeps.drewN ?_ _ | refine Keeps.setCell ?_ (by simp) _ | refine Keeps.setRow ?_ (by simp) _ | refine Keeps.alloc ?_ _))))
          ((go_at_call 31; rename_i hh _ _; refine (wrap_flt _ _ _ _ _).mono ?_; rintro e w5 ⟨rfl, hw5⟩; have hk5 : Keeps (fun _ => False) wr w5 := (by rw [hw5]; exact hh.2.alloc _); have HC5 : Hid (Chain w5 (((l ++ [last]).drop q).map fun x => (x.line, x.what)) last.code (.iface tPFault (.pointer (some ⟨wr.heap.size, 0, none⟩)))) := Lib.hid (by rw [drop_at HXQ.out, List.map_cons]; exact .layer _ _ _ _ _ _ (by rw [hw5]; exact Blk.new _ _ _) (Chain.keeps HCH2 hk5 (fun _ _ _ => id))); clear hw5))
        go_wp2_with fail
        go_roundw
        case rel => exact ⟨q, (q : Int) - 1, _, rfl, rfl, by omega, rfl, HC5.out, hK.trans hk5⟩
        case measure => simp [intOf] <;> omega
end Go.Proofs.YtngjppckobfdeaaDoor
