/-
  board.Size.
-/
import Derived.Test.YtgpfmkkkpdpdfaaDoorBrdC
namespace Go.Proofs.YtgpfmkkkpdpdfaaDoor
open Go.RowKit

def SizeRel (n m : Int) (j : Nat) : Prop :=
  (j = 0 ∧ m = n) ∨ (j = 1 ∧ m = n / 1024 ∧ 10240 ≤ n) ∨ (j = 2 ∧ m = n / 1048576 ∧ 10240 ≤ n / 1024) ∨ (j = 3 ∧ m = n / 1073741824 ∧ 10240 ≤ n / 1048576)
def unitW : List ByteArray := [⟨#[]⟩, ⟨#[75]⟩, ⟨#[77]⟩, ⟨#[71]⟩]
theorem SizeRel.step {n m : Int} {j : Nat} (h : SizeRel n m j) (hm : 10240 ≤ m) (hj : j < 3) : SizeRel n (m / 1024) (j + 1) := by
  unfold SizeRel at *
  rcases h with ⟨rfl, rfl⟩ | ⟨rfl, rfl, h⟩ | ⟨rfl, rfl, h⟩ | ⟨rfl, rfl, h⟩ <;> omega
theorem SizeRel.le {n m : Int} {j : Nat} (h : SizeRel n m j) : j ≤ 3 := by
  unfold SizeRel at h; omega
theorem SizeRel.end_ {n m : Int} {j : Nat} (h : SizeRel n m j) (hm : m < 10240 ∨ j = 3) : ∃ u, unitW[j]? = some u ∧ u.size ≤ 1 ∧ sizeP n = str (dec (max 0 m)) ++ u := by
  unfold SizeRel at h
  unfold sizeP
  rcases h with ⟨rfl, rfl⟩ | ⟨rfl, rfl, h⟩ | ⟨rfl, rfl, h⟩ | ⟨rfl, rfl, h⟩
  · refine ⟨⟨#[]⟩, rfl, by decide, ?_⟩
    have he : ∀ s : ByteArray, s ++ ⟨#[]⟩ = s := fun s => by apply ba_ext; simp
    rw [he]
    by_cases hn : m < 0
    · rw [if_pos hn, show max 0 m = 0 by omega, dec_pos (Int.le_refl 0), Int.toNat_zero, decN_small (by decide)]; rfl
    · rw [if_neg hn, if_pos (by omega), show max 0 m = m by omega]
  · refine ⟨⟨#[75]⟩, rfl, by decide, ?_⟩
    rw [if_neg (by omega), if_neg (by omega), if_pos (by omega), show max 0 (n / 1024) = n / 1024 by omega, ← str_catB]; rfl
  · refine ⟨⟨#[77]⟩, rfl, by decide, ?_⟩
    rw [if_neg (by omega), if_neg (by omega), if_neg (by omega), if_pos (by omega), show max 0 (n / 1048576) = n / 1048576 by omega, ← str_catB]; rfl
  · refine ⟨⟨#[71]⟩, rfl, by decide, ?_⟩
    rw [if_neg (by omega), if_neg (by omega), if_neg (by omega), if_neg (by omega), show max 0 (n / 1073741824) = n / 1073741824 by omega, ← str_catB]; rfl

set_option maxRecDepth 100000 in
set_option maxHeartbeats 1000000 in
theorem size34 (w : World) (n : Int) (h1 : -9223372036854775808 ≤ n) (h2 : n ≤ 9223372036854775807) :
    Calls Tryd.prog 29 #[.int .i64 n] w fun e w' => e = .returned (.string (sizeP n)) ∧ Keeps (fun _ => False) w w' := by
  go_enter Tryd.func29, Tryd.ntmps29
  go_wp2_with fail
  go_loopw [0, 4] (fun u0 u4 wr => wr = w.alloc (Obj.cells #[Value.string ⟨#[]⟩, Value.string ⟨#[75]⟩, Value.string ⟨#[77]⟩, Value.string ⟨#[71]⟩] 110) ∧ ∃ (m : Int) (j : Nat), u0 = .int .i64 m ∧ u4 = .int .i64 j ∧ j ≤ 3 ∧ -9223372036854775808 ≤ m ∧ m ≤ 9223372036854775807 ∧ Hid (SizeRel n m j)) (fun _ u4 _ => 3 - (intOf u4).toNat)
  case atStart => exact ⟨rfl, n, 0, rfl, rfl, by omega, h1, h2, Lib.hid (.inl ⟨rfl, rfl⟩)⟩
  case round =>
    obtain ⟨rfl, m, j, rfl, rfl, hj, m1, m2, HR⟩ := hrel
    by_cases hm : 10240 ≤ m
    · by_cases hj3 : j < 3
      · have HS := HR.out.step hm hj3
        obtain ⟨M, rfl⟩ := Int.eq_ofNat_of_zero_le (show 0 ≤ m by omega)
        obtain ⟨q, hq⟩ : ∃ q : Nat, q = M / 1024 := ⟨_, rfl⟩
        have hq1 : (M : Int) / 1024 = (q : Int) := by rw [hq]; rfl
        have t1 : (M : Int).tdiv 1024 = (q : Int) := by rw [hq]; rfl
        have q1 : (q : Int) ≤ 9223372036854775807 := by omega
        rw [hq1] at HS
        have HS := Lib.hid HS
        clear hq1 hq
        go_wp2_with fail
        go_roundw
        case rel => exact ⟨trivial, q, j + 1, rfl, by go_num, by omega, by omega, q1, HS⟩
        case measure => simp [intOf]; omega
      · obtain ⟨u, hu, hu1, hs⟩ := HR.out.end_ (by omega)
        obtain ⟨V, hV⟩ : ∃ V, V = str (dec (max 0 m)) := ⟨_, rfl⟩
        have hz : V.size ≤ 20 := by rw [hV]; exact dec_size (max 0 m) (by omega) (by omega)
        have hp : ∀ w x, x = max 0 m → Calls Tryd.prog 48 #[.int .i64 x] w fun e w' => e = .returned (.string V) ∧ Keeps (fun _ => False) w w' := by
          rintro w x rfl; rw [hV]; exact put_any w _ (by omega) (by omega)
        rw [← hV] at hs
        have HP := Lib.hid hp
        have HS := Lib.hid hs
        have B : Blk (w.alloc (Obj.cells #[Value.string ⟨#[]⟩, Value.string ⟨#[75]⟩, Value.string ⟨#[77]⟩, Value.string ⟨#[71]⟩] 110)) w.heap.size 110 (unitW.map Value.string).toArray := Blk.new w 110 (unitW.map Value.string).toArray
        have hc : (w.alloc (Obj.cells #[Value.string ⟨#[]⟩, Value.string ⟨#[75]⟩, Value.string ⟨#[77]⟩, Value.string ⟨#[71]⟩] 110)).cell? ⟨w.heap.size, j, none⟩ = some (.string u) := by
          refine (B.cell j).trans ?_; simp only [List.getElem?_toArray, List.getElem?_map, hu, Option.map_some]
        have HB := Lib.hid B
        have HU := Lib.hid hu
        clear hs hV B hu hp
        go_wp2_with fail
        go_region_with (go_at_call 48; go_must (refine (HP.out _ _ (by first | omega | (split <;> omega))).mono ?_; rintro e w3 ⟨rfl, k3⟩; have kw : Keeps (fun _ => False) w w3 := Keeps.trans (by (repeat (first | (with_reducible assumption) | (with_reducible exact Keeps.refl _ _) | refine Keeps.drew ?_ | refine Keeps.drewN ?_ _ | refine Keeps.setCell ?_ (by simp) _ | refine Keeps.setRow ?_ (by simp) _ | refine Keeps.alloc ?_ _))) k3; have c3 := ((HB.out).keeps (Keeps.trans (by (repeat (first | (with_reducible assumption) | (with_reducible exact Keeps.refl _ _) | refine Keeps.drew ?_ | refine Keeps.drewN ?_ _ | refine Keeps.setCell ?_ (by simp) _ | refine Keeps.setRow ?_ (by simp) _ | refine Keeps.alloc ?_ _))) k3) id).cell j; simp only [List.getElem?_toArray, List.getElem?_map, HU.out, Option.map_some] at c3))
        all_goals (go_wp2_with fail)
        all_goals (go_ret; exact ⟨by rw [HS.out]; rfl, by (repeat (first | (with_reducible assumption) | (with_reducible exact Keeps.refl _ _) | refine Keeps.drew ?_ | refine Keeps.drewN ?_ _ | refine Keeps.setCell ?_ (by simp) _ | refine Keeps.setRow ?_ (by simp) _ | refine Keeps.alloc ?_ _))⟩)
    · by_cases h0 : 0 < m
      · obtain ⟨u, hu, hu1, hs⟩ := HR.out.end_ (by omega)
        obtain ⟨V, hV⟩ : ∃ V, V = str (dec (max 0 m)) := ⟨_, rfl⟩
        have hz : V.size ≤ 20 := by rw [hV]; exact dec_size (max 0 m) (by omega) (by omega)
        have hp : ∀ w x, x = max 0 m → Calls Tryd.prog 48 #[.int .i64 x] w fun e w' => e = .returned (.string V) ∧ Keeps (fun _ => False) w w' := by
          rintro w x rfl; rw [hV]; exact put_any w _ (by omega) (by omega)
        rw [← hV] at hs
        have HP := Lib.hid hp
        have HS := Lib.hid hs
        have B : Blk (w.alloc (Obj.cells #[Value.string ⟨#[]⟩, Value.string ⟨#[75]⟩, Value.string ⟨#[77]⟩, Value.string ⟨#[71]⟩] 110)) w.heap.size 110 (unitW.map Value.string).toArray := Blk.new w 110 (unitW.map Value.string).toArray
        have hc : (w.alloc (Obj.cells #[Value.string ⟨#[]⟩, Value.string ⟨#[75]⟩, Value.string ⟨#[77]⟩, Value.string ⟨#[71]⟩] 110)).cell? ⟨w.heap.size, j, none⟩ = some (.string u) := by
          refine (B.cell j).trans ?_; simp only [List.getElem?_toArray, List.getElem?_map, hu, Option.map_some]
        have HB := Lib.hid B
        have HU := Lib.hid hu
        clear hs hV B hu hp
        go_wp2_with fail
        go_region_with (go_at_call 48; go_must (refine (HP.out _ _ (by first | omega | (split <;> omega))).mono ?_; rintro e w3 ⟨rfl, k3⟩; have kw : Keeps (fun _ => False) w w3 := Keeps.trans (by (repeat (first | (with_reducible assumption) | (with_reducible exact Keeps.refl _ _) | refine Keeps.drew ?_ | refine Keeps.drewN ?_ _ | refine Keeps.setCell ?_ (by simp) _ | refine Keeps.setRow ?_ (by simp) _ | refine Keeps.alloc ?_ _))) k3; have c3 := ((HB.out).keeps (Keeps.trans (by (repeat (first | (with_reducible assumption) | (with_reducible exact Keeps.refl _ _) | refine Keeps.drew ?_ | refine Keeps.drewN ?_ _ | refine Keeps.setCell ?_ (by simp) _ | refine Keeps.setRow ?_ (by simp) _ | refine Keeps.alloc ?_ _))) k3) id).cell j; simp only [List.getElem?_toArray, List.getElem?_map, HU.out, Option.map_some] at c3))
        all_goals (go_wp2_with fail)
        all_goals (go_ret; exact ⟨by rw [HS.out]; rfl, by (repeat (first | (with_reducible assumption) | (with_reducible exact Keeps.refl _ _) | refine Keeps.drew ?_ | refine Keeps.drewN ?_ _ | refine Keeps.setCell ?_ (by simp) _ | refine Keeps.setRow ?_ (by simp) _ | refine Keeps.alloc ?_ _))⟩)
      · obtain ⟨u, hu, hu1, hs⟩ := HR.out.end_ (by omega)
        obtain ⟨V, hV⟩ : ∃ V, V = str (dec (max 0 m)) := ⟨_, rfl⟩
        have hz : V.size ≤ 20 := by rw [hV]; exact dec_size (max 0 m) (by omega) (by omega)
        have hp : ∀ w x, x = max 0 m → Calls Tryd.prog 48 #[.int .i64 x] w fun e w' => e = .returned (.string V) ∧ Keeps (fun _ => False) w w' := by
          rintro w x rfl; rw [hV]; exact put_any w _ (by omega) (by omega)
        rw [← hV] at hs
        have HP := Lib.hid hp
        have HS := Lib.hid hs
        have B : Blk (w.alloc (Obj.cells #[Value.string ⟨#[]⟩, Value.string ⟨#[75]⟩, Value.string ⟨#[77]⟩, Value.string ⟨#[71]⟩] 110)) w.heap.size 110 (unitW.map Value.string).toArray := Blk.new w 110 (unitW.map Value.string).toArray
        have hc : (w.alloc (Obj.cells #[Value.string ⟨#[]⟩, Value.string ⟨#[75]⟩, Value.string ⟨#[77]⟩, Value.string ⟨#[71]⟩] 110)).cell? ⟨w.heap.size, j, none⟩ = some (.string u) := by
          refine (B.cell j).trans ?_; simp only [List.getElem?_toArray, List.getElem?_map, hu, Option.map_some]
        have HB := Lib.hid B
        have HU := Lib.hid hu
        clear hs hV B hu hp
        go_wp2_with fail
        go_region_with (go_at_call 48; go_must (refine (HP.out _ _ (by first | omega | (split <;> omega))).mono ?_; rintro e w3 ⟨rfl, k3⟩; have kw : Keeps (fun _ => False) w w3 := Keeps.trans (by (repeat (first | (with_reducible assumption) | (with_reducible exact Keeps.refl _ _) | refine Keeps.drew ?_ | refine Keeps.drewN ?_ _ | refine Keeps.setCell ?_ (by simp) _ | refine Keeps.setRow ?_ (by simp) _ | refine Keeps.alloc ?_ _))) k3; have c3 := ((HB.out).keeps (Keeps.trans (by (repeat (first | (with_reducible assumption) | (with_reducible exact Keeps.refl _ _) | refine Keeps.drew ?_ | refine Keeps.drewN ?_ _ | refine Keeps.setCell ?_ (by simp) _ | refine Keeps.setRow ?_ (by simp) _ | refine Keeps.alloc ?_ _))) k3) id).cell j; simp only [List.getElem?_toArray, List.getElem?_map, HU.out, Option.map_some] at c3))
        all_goals (go_wp2_with fail)
        all_goals (go_ret; exact ⟨by rw [HS.out]; rfl, by (repeat (first | (with_reducible assumption) | (with_reducible exact Keeps.refl _ _) | refine Keeps.drew ?_ | refine Keeps.drewN ?_ _ | refine Keeps.setCell ?_ (by simp) _ | refine Keeps.setRow ?_ (by simp) _ | refine Keeps.alloc ?_ _))⟩)
end Go.Proofs.YtgpfmkkkpdpdfaaDoor
