/-
  The document's items of bytes (wheelhouseref08.Scan), whether two rows of items are the same, the items of all generations (wheelhouseref22.Load), and whether items are a piece of a row (Within).
-/
import Derived.Test.YtdbnalocmjkncaaGreatDoorQGround3
import Derived.Test.YtdbnalocmjkncaaGreatDoorQOps22
import Derived.Test.YtdbnalocmjkncaaGreatDoorQGround2
import Derived.Test.YtdbnalocmjkncaaGreatDoorQJourP
namespace Go.Proofs.YtdbnalocmjkncaaGreatDoor
open Go.RowKit

theorem itmR_len : ∀ x : Itm, (itmR x).length = 3 := fun _ => rfl
theorem itmR_ones (x : Itm) : ∀ u ∈ itmR x, u.oneCell' = true := by
  intro u hu
  simp only [itmR, List.mem_cons, List.not_mem_nil, or_false] at hu
  rcases hu with rfl | rfl | rfl <;> rfl
theorem Blk.newB2 (w : World) (o : Obj) (t : TypeId) (cs : Array Value) : Blk ((w.alloc o).alloc (.cells cs t)) (w.heap.size + 1) t cs := by
  have := Blk.new (w.alloc o) t cs
  simpa using this
theorem itmR_one (x : Itm) : itmR x = (itmV x).cells.toList := rfl
/-- what Scan tells of bytes -/
def scanN (l : List UInt8) : Nat := (flatR (scanI l)).length
theorem flat_scan : ∀ (f : Nat) (l : List UInt8), l.length ≤ f → flatR (scanI l) = l.take (scanN l)
  | f, l, hf => by
    by_cases h : Whole l
    · have hs := scan_more h
      have hp := h.put
      have ha := h.all
      have hrl := recP_len (gotI l)
      rw [h.body] at hrl
      match f, hf with
      | 0, hf => omega
      | f + 1, hf =>
        have ih := flat_scan f (l.drop (14 + gotK l)) (by rw [List.length_drop]; omega)
        have e : scanN l = 14 + gotK l + scanN (l.drop (14 + gotK l)) := by
          unfold scanN
          rw [hs, flatR_cons, List.length_append, hrl]
        rw [hs, flatR_cons, ← hp, ih, e]
        exact List.take_add.symm
    · rw [scan_no h]
      unfold scanN
      rw [scan_no h]
      rfl
/-- items that a call gathers -/
abbrev OwnI (w : World) (B : Nat) (v : Value) (xs : List Itm) : Prop := OwnS itmR 3 w B 43 v xs
theorem OwnI.slat {w : World} {B : Nat} {v : Value} {xs : List Itm} (h : OwnI w B v xs) : ∃ a c, v = .slice a xs.length c ∧ SlAt itmR 3 w a xs.length xs := by
  obtain ⟨a, cap, hv, _, _, hg, hc⟩ := OwnS.shape h itmR_len
  refine ⟨a, cap, hv, rfl, fun hp => ?_⟩
  obtain ⟨g, hga, _, hlt, _⟩ := hg hp
  refine ⟨g, 0, hga, hlt, fun i x j u hx hu => ?_⟩
  rw [Nat.zero_add]
  exact (hc g hga i x j u hx hu).1
theorem scan_len (l : List UInt8) : 14 * (scanI l).length ≤ l.length := by
  have h := flat_scan l.length l (Nat.le_refl _)
  have h2 : (flatR (scanI l)).length ≤ l.length := by rw [h, List.length_take]; omega
  have h3 : ∀ xs : List Itm, 14 * xs.length ≤ (flatR xs).length := by
    intro xs
    induction xs with
    | nil => simp [flatR]
    | cons x xs ih => rw [flatR_cons, List.length_append, recP_len, List.length_cons]; omega
  have := h3 (scanI l)
  omega
theorem itm_take {l : List Itm} {i : Nat} {x : Itm} (h : l[i]? = some x) : l.take (i + 1) = l.take i ++ [x] := by rw [List.take_add_one, h]; rfl
/-- a row's item, as cells that stay -/
theorem itm_at {w : World} {a : Option Addr} {n : Nat} {l : List Itm} (h : SlAt itmR 3 w a n l) {i : Nat} {x : Itm} (hx : l[i]? = some x) : ∃ b off, a = some ⟨b, off, none⟩ ∧ b < w.heap.size ∧ ∀ W, Keeps (fun _ => False) w W → W.cell? ⟨b, off + i * 3, none⟩ = some (.int .i64 x.kind) ∧ W.cell? ⟨b, off + i * 3 + 1, none⟩ = some (.int .i64 x.at_) ∧ W.cell? ⟨b, off + i * 3 + 2, none⟩ = some (.string x.body) := by
  have hi : i < l.length := (List.getElem?_eq_some_iff.1 hx).1
  obtain ⟨b, off, ha, hb, hc⟩ := h.2 (by rw [← h.1]; omega)
  refine ⟨b, off, ha, hb, fun W k => ?_⟩
  have hh : ∀ j v, (itmR x)[j]? = some v → W.cell? ⟨b, off + i * 3 + j, none⟩ = some v := fun j v hj => (World.cell?_of_block (w := w) (k.block b hb id)).trans (hc i x j v hx hj)
  exact ⟨hh 0 _ rfl, hh 1 _ rfl, hh 2 _ rfl⟩
instance : DecidableEq Itm := fun a b => decidable_of_iff (a.kind = b.kind ∧ a.at_ = b.at_ ∧ a.body = b.body) ⟨fun h => by
  obtain ⟨h1, h2, h3⟩ := h
  cases a; cases b
  simp only at h1 h2 h3
  rw [h1, h2, h3], fun h => by rw [h]; exact ⟨rfl, rfl, rfl⟩⟩
theorem itm_ne {a b a' b' : Int} {c c' : ByteArray} (h : (⟨a, b, c⟩ : Itm) ≠ ⟨a', b', c'⟩) : a ≠ a' ∨ (a = a' ∧ b ≠ b') ∨ (a = a' ∧ b = b' ∧ c.toList ≠ c'.toList) := by
  by_cases h1 : a = a'
  · by_cases h2 : b = b'
    · refine .inr (.inr ⟨h1, h2, fun hc => h ?_⟩)
      rw [ByteArray.toList_eq, ByteArray.toList_eq] at hc
      rw [h1, h2, ba_ext hc]
    · exact .inr (.inl ⟨h1, h2⟩)
  · exact .inl h1
set_option maxRecDepth 100000 in
set_option maxHeartbeats 1000000 in
theorem r8same_all (w : World) (a b : Option Addr) (n m c d : Nat) (l k : List Itm) (h : SlAt itmR 3 w a n l) (h2 : SlAt itmR 3 w b m k) (hn : n ≤ 1073741824) (hm : m ≤ 1073741824) :
    Calls Tryz.prog 43 #[.slice a n c, .slice b m d] w fun e w' => e = .returned (.bool (decide (l = k))) ∧ Keeps (fun _ => False) w w' := by
  have HLN := Lib.hid h.1
  have HKN := Lib.hid h2.1
  have HL := Lib.hid h
  have HK := Lib.hid h2
  clear h h2
  by_cases hnm : n = m
  · subst hnm
    go_enter Tryz.func43, Tryz.ntmps43
    go_wp2_with fail
    go_loopw [5] (fun u5 wr => ∃ i : Nat, u5 = .int .i64 i ∧ Hid (i ≤ n ∧ l.take i = k.take i ∧ Keeps (fun _ => False) w wr)) (fun u5 _ => n - (intOf u5).toNat)
    case atStart => exact ⟨0, rfl, Lib.hid ⟨Nat.zero_le _, by simp, Keeps.refl _ _⟩⟩
    case round =>
      obtain ⟨i, rfl, HI⟩ := hrel
      by_cases hi : i < n
      · obtain ⟨x, hs⟩ : ∃ x, l[i]? = some x := ⟨_, List.getElem?_eq_getElem (by rw [HLN.out]; exact hi)⟩
        obtain ⟨y, ht⟩ : ∃ y, k[i]? = some y := ⟨_, List.getElem?_eq_getElem (by rw [HKN.out]; exact hi)⟩
        obtain ⟨b1, off1, rfl, _, hc1⟩ := itm_at HL.out hs
        obtain ⟨b2, off2, rfl, _, hc2⟩ := itm_at HK.out ht
        obtain ⟨x0, x1, x2⟩ := hc1 _ HI.out.2.2
        obtain ⟨y0, y1, y2⟩ := hc2 _ HI.out.2.2
        by_cases hst : x = y
        · have htk : l.take (i + 1) = k.take (i + 1) := by rw [itm_take hs, itm_take ht, HI.out.2.1, hst]
          have HTK := Lib.hid htk
          clear htk hs ht hc1 hc2
          subst hst
          go_wp2_with fail
          go_region
          all_goals (go_wp2_with fail)
          go_roundw
          case rel => exact ⟨i + 1, by go_num, Lib.hid ⟨by omega, HTK.out, by have := HI.out.2.2; (repeat (first | (with_reducible assumption) | (with_reducible exact Keeps.refl _ _) | refine Keeps.drew ?_ | refine Keeps.drewN ?_ _ | refine Keeps.setCell ?_ (by simp) _ | refine Keeps.setRow ?_ (by simp) _ | refine Keeps.alloc ?_ _))⟩⟩
          case measure => simp [intOf]; omega
        · have hlk : l ≠ k := by
            rintro rfl
            rw [hs] at ht
            exact hst (Option.some.inj ht)
          have HLK := Lib.hid hlk
          clear hlk hs ht hc1 hc2
          obtain ⟨xk, xt, xb⟩ := x
          obtain ⟨yk, yt, yb⟩ := y
          simp only at x0 x1 x2 y0 y1 y2
          rcases itm_ne hst with hb | ⟨rfl, hb⟩ | ⟨rfl, rfl, hb⟩
          all_goals
            clear hst
            go_wp2_with fail
            go_region
            all_goals (go_wp2_with fail)
            go_ret
            exact ⟨by rw [decide_eq_false HLK.out]; rfl, by have := HI.out.2.2; (repeat (first | (with_reducible assumption) | (with_reducible exact Keeps.refl _ _) | refine Keeps.drew ?_ | refine Keeps.drewN ?_ _ | refine Keeps.setCell ?_ (by simp) _ | refine Keeps.setRow ?_ (by simp) _ | refine Keeps.alloc ?_ _))⟩
      · have hlk : l = k := by
          have := HI.out.2.1
          rwa [List.take_of_length_le (by rw [HLN.out]; omega), List.take_of_length_le (by rw [HKN.out]; omega)] at this
        have HLK := Lib.hid hlk
        clear hlk
        go_wp2_with fail
        go_ret
        exact ⟨by rw [decide_eq_true HLK.out]; rfl, HI.out.2.2⟩
  · have hlk : l ≠ k := by rintro rfl; exact hnm (HLN.out.symm.trans HKN.out)
    have HLK := Lib.hid hlk
    have hb : ((n : Int) != (m : Int)) = true := by rw [bne_iff_ne]; omega
    clear hlk
    go_enter Tryz.func43, Tryz.ntmps43
    go_wp2_with fail
    go_ret
    exact ⟨by rw [decide_eq_false HLK.out]; rfl, Keeps.refl _ _⟩
end Go.Proofs.YtdbnalocmjkncaaGreatDoor
