/-
  The document's ring (wheelhouseref04): what its Text, Put, Force and Take hand back.
-/
import Derived.Test.YtclgjcdkjgkchaaChecked
import Derived.Test.YtclgjcdkjgkchaaBase
namespace Go.Proofs.Ytclgjcdkjgkchaa
open Go.RowKit

/-- two new structs of the document's ring: the argument's box, and the result's -/
theorem boxes04 {w W0 : World} {T : TypeId} {a b c d e f : Value} (hW : (w.alloc (Obj.cells #[a, b, c] T)).alloc (Obj.cells #[d, e, f] T) = W0) :
    Blk W0 w.heap.size T #[a, b, c] ∧ Blk W0 (w.heap.size + 1) T #[d, e, f] ∧ Keeps (fun _ => False) w W0 := by
  subst hW
  refine ⟨(Blk.new _ _ _).alloc _, ?_, ((Keeps.refl _ _).alloc _).alloc _⟩
  have := Blk.new (w.alloc (Obj.cells #[a, b, c] T)) T #[d, e, f]
  simpa using this

section
variable (w : World) (a : ByteArray) (gone most : Nat)

theorem rtext_any (hg : gone ≤ a.size) (_hm : a.size ≤ maxLen) :
    Calls Try.prog 34 #[.agg #[.string a, .int .i64 gone, .int .i64 most]] w fun e w' => e = .returned (.string (a.extract gone a.size)) ∧ Keeps (fun _ => False) w w' := by
  go_enter Try.func34, Try.ntmps34
  go_wp2
  go_ret
  exact ⟨rfl, (Keeps.refl _ _).alloc _⟩

theorem rput_any (s : ByteArray) (hg : gone ≤ a.size) (hm : a.size + s.size ≤ 1099511627776) :
    Calls Try.prog 11 #[.agg #[.string a, .int .i64 gone, .int .i64 most], .string s] w fun e w' =>
      e = .returned (.tuple #[.agg #[.string (if a.size - gone + s.size ≤ most then a ++ s else a), .int .i64 gone, .int .i64 most], .bool (decide (a.size - gone + s.size ≤ most))]) ∧ Keeps (fun _ => False) w w' := by
  have hw : IntKind.i64.wrap (((a.size - gone : Nat) : Int) + (s.size : Int)) = ((a.size - gone : Nat) : Int) + (s.size : Int) := wrap_in (by omega) (by omega)
  go_enter Try.func11, Try.ntmps11
  go_wp2_with fail
  generalize hW : (w.alloc (Obj.cells #[Value.string a, Value.int .i64 gone, Value.int .i64 most] 29)).alloc (Obj.cells #[Value.string { data := #[] }, Value.int .i64 0, Value.int .i64 0] 29) = W0
  obtain ⟨B0, B1, K0⟩ := boxes04 hW
  clear hW
  obtain ⟨c0, c1, c2⟩ := B0.cells3
  go_region_held3 (fun w' => w'.cell? ⟨w.heap.size, 0, none⟩ = some (.string a) ∧ w'.cell? ⟨w.heap.size, 1, none⟩ = some (.int .i64 gone) ∧ w'.cell? ⟨w.heap.size, 2, none⟩ = some (.int .i64 most) ∧ Keeps (fun _ => False) W0 w')
    ((first | exact ⟨c0, c1, c2, (Keeps.refl _ _).drew⟩ | (have bb := (B0.keeps kk id).cells3; exact ⟨bb.1, bb.2.1, bb.2.2, kk⟩)))
    (first | (go_at_call 34; rename_i hh _ _; have hk := hh.2.2.2; refine (rtext_any _ _ _ _ hg (by unfold maxLen; omega)).mono ?_; rintro e w1 ⟨rfl, k1⟩; have kk := hk.trans k1))
  rename_i hh
  have kk := hh.2.2.2
  clear hh c0 c1 c2 hw
  have B0 := B0.keeps kk id
  have B1 := B1.keeps kk id
  have K1 := K0.trans kk
  obtain ⟨c0, c1, c2⟩ := B0.cells3
  obtain ⟨d0, d1, d2⟩ := B1.cells3
  have f0 := B0.frozen 0
  have g0 := B1.frozen 0
  have g1 := B1.frozen 1
  have g2 := B1.frozen 2
  by_cases hc : a.size - gone + s.size ≤ most
  · have hc2 : ((a.size - gone : Nat) : Int) + (s.size : Int) ≤ most := by omega
    go_wp2
    refine ret_cell_tmp rfl (w.heap.size + 1) 29 _ _ rfl ((((B1.far (p := ⟨w.heap.size, 0, none⟩) (by simp) _).set_ 0 _).set_ 1 _).set_ 2 _) Try.underlying29 rfl (by kernel_rfl) rfl ⟨rfl, ?_⟩
    (repeat (first | (with_reducible assumption) | (with_reducible exact Keeps.refl _ _) | refine Keeps.drew ?_ | refine Keeps.drewN ?_ _ | refine Keeps.setCell ?_ (by simp) _ | refine Keeps.setRow ?_ (by simp) _ | refine Keeps.alloc ?_ _))
  · have hc2 : (most : Int) < ((a.size - gone : Nat) : Int) + (s.size : Int) := by omega
    go_wp2
    refine ret_cell_tmp rfl (w.heap.size + 1) 29 _ _ rfl (((B1.set_ 0 _).set_ 1 _).set_ 2 _) Try.underlying29 rfl (by kernel_rfl) rfl ⟨rfl, ?_⟩
    (repeat (first | (with_reducible assumption) | (with_reducible exact Keeps.refl _ _) | refine Keeps.drew ?_ | refine Keeps.drewN ?_ _ | refine Keeps.setCell ?_ (by simp) _ | refine Keeps.setRow ?_ (by simp) _ | refine Keeps.alloc ?_ _))

theorem rforce_any (s : ByteArray) (hg : gone ≤ a.size) (hm : a.size + s.size ≤ 1099511627776) (hmost : most ≤ 1099511627776) :
    Calls Try.prog 13 #[.agg #[.string a, .int .i64 gone, .int .i64 most], .string s] w fun e w' =>
      e = .returned (.tuple #[.agg #[.string (a ++ s), .int .i64 (gone + (a.size + s.size - gone - most) : Nat), .int .i64 most], .int .i64 (a.size + s.size - gone - most : Nat)]) ∧ Keeps (fun _ => False) w w' := by
  obtain ⟨L, hL⟩ : ∃ L, L = a.size + s.size - gone - most := ⟨_, rfl⟩
  rw [← hL]
  have hL1 : a.size + s.size ≤ gone + most + L := by omega
  have hL2 : gone + L ≤ a.size + s.size := by omega
  have hL3 := Lib.hid (show L = 0 ∨ gone + most + L = a.size + s.size from by omega)
  clear hL
  go_enter Try.func13, Try.ntmps13
  go_wp2_with fail
  go_loopw [6] (fun n wr => ∃ k : Nat, n = .int .i64 k ∧ k ≤ L ∧ Blk wr w.heap.size 29 #[.string (a ++ s), .int .i64 (gone + k : Nat), .int .i64 most] ∧
      Blk wr (w.heap.size + 1) 29 #[.string ⟨#[]⟩, .int .i64 0, .int .i64 0] ∧ Keeps (fun _ => False) w wr) (fun n _ => L - (intOf n).toNat)
  case atStart =>
    obtain ⟨B0, B1, K0⟩ := boxes04 (w := w) (T := 29) (a := .string (a ++ s)) (b := .int .i64 gone) (c := .int .i64 most) (d := .string ⟨#[]⟩) (e := .int .i64 0) (f := .int .i64 0) rfl
    exact ⟨0, rfl, by omega, B0, B1, K0⟩
  case round =>
    obtain ⟨k, rfl, hkL, B0, B1, K1⟩ := hrel
    obtain ⟨c0, c1, c2⟩ := B0.cells3
    have f1 := B0.frozen 1
    have g0 := B1.frozen 0
    have g1 := B1.frozen 1
    have g2 := B1.frozen 2
    obtain ⟨d0, d1, d2⟩ := B1.cells3
    have hsz : ((a ++ s).size : Int) = a.size + s.size := by simp
    have hpu : ((gone + k : Nat) : Int) = gone + k := by simp
    have HZ := Lib.hid hsz
    clear hsz
    by_cases hc : k < L
    · have h3 : gone + most + L = a.size + s.size := by have := hL3.out; omega
      have h4 : gone + most + k < a.size + s.size := by omega
      clear h3
      go_wp2
      go_roundw
      case rel =>
        refine ⟨k + 1, by go_num, by omega, ?_, B1.far (p := ⟨w.heap.size, 1, none⟩) (by simp) _, K1.setCell (fun h => by simp at h) _⟩
        have := B0.set_ 1 (.int .i64 ((gone + (k + 1) : Nat) : Int))
        simpa [Int.add_assoc] using this
      case measure => simp [intOf]; omega
    · have hk : k = L := by omega
      subst hk
      have h4 : a.size + s.size ≤ gone + most + k := by omega
      go_wp2
      refine ret_cell_tmp rfl (w.heap.size + 1) 29 _ _ rfl (((B1.set_ 0 _).set_ 1 _).set_ 2 _) Try.underlying29 rfl (by kernel_rfl) rfl ⟨?_, ?_⟩
      · rfl
      · (repeat (first | (with_reducible assumption) | (with_reducible exact Keeps.refl _ _) | refine Keeps.drew ?_ | refine Keeps.drewN ?_ _ | refine Keeps.setCell ?_ (by simp) _ | refine Keeps.setRow ?_ (by simp) _ | refine Keeps.alloc ?_ _))

theorem take_eq {a s : ByteArray} {x y m : Int} (h : x = y) : Ending.returned (.tuple #[.agg #[.string a, .int .i64 x, .int .i64 m], .string s]) = .returned (.tuple #[.agg #[.string a, .int .i64 y, .int .i64 m], .string s]) := by rw [h]

theorem rtake_any (k : Int) (hg : gone ≤ a.size) (hm : a.size ≤ 1099511627776) :
    Calls Try.prog 15 #[.agg #[.string a, .int .i64 gone, .int .i64 most], .int .i64 k] w fun e w' =>
      e = .returned (.tuple #[.agg #[.string a, .int .i64 (gone + min k.toNat (a.size - gone) : Nat), .int .i64 most], .string (a.extract gone (gone + min k.toNat (a.size - gone)))]) ∧ Keeps (fun _ => False) w w' := by
  rcases (show (a.size - gone : Nat) ≤ k ∨ (0 < k ∧ k < (a.size - gone : Nat)) ∨ (k ≤ 0 ∧ k < (a.size - gone : Nat)) from by omega) with hc | ⟨hc, hd⟩ | ⟨hc, hd⟩
  · have e1 : min k.toNat (a.size - gone) = a.size - gone := by omega
    rw [e1]
    rw [show a.extract gone (gone + (a.size - gone)) = a.extract gone a.size from by rw [show gone + (a.size - gone) = a.size by omega]]
    clear e1
    go_enter Try.func15, Try.ntmps15
    go_wp2_with fail
    generalize hW : (w.alloc (Obj.cells #[Value.string a, Value.int .i64 gone, Value.int .i64 most] 29)).alloc (Obj.cells #[Value.string { data := #[] }, Value.int .i64 0, Value.int .i64 0] 29) = W0
    obtain ⟨B0, B1, K0⟩ := boxes04 hW
    clear hW
    refine (rtext_any _ _ _ _ hg (by unfold maxLen; omega)).mono ?_
    rintro e w1 ⟨rfl, k1⟩
    have K1 := K0.trans k1
    have B0 := B0.keeps k1 id
    have B1 := B1.keeps k1 id
    obtain ⟨c0, c1, c2⟩ := B0.cells3
    obtain ⟨d0, d1, d2⟩ := B1.cells3
    have f1 := B0.frozen 1
    have g0 := B1.frozen 0
    have g1 := B1.frozen 1
    have g2 := B1.frozen 2
    go_wp2
    refine ret_cell_tmp rfl (w.heap.size + 1) 29 _ _ rfl ((((B1.far (p := ⟨w.heap.size, 1, none⟩) (by simp) _).set_ 0 _).set_ 1 _).set_ 2 _) Try.underlying29 rfl (by kernel_rfl) rfl ⟨by first | rfl | exact take_eq (by omega), ?_⟩
    (repeat (first | (with_reducible assumption) | (with_reducible exact Keeps.refl _ _) | refine Keeps.drew ?_ | refine Keeps.drewN ?_ _ | refine Keeps.setCell ?_ (by simp) _ | refine Keeps.setRow ?_ (by simp) _ | refine Keeps.alloc ?_ _))
  · have e1 : min k.toNat (a.size - gone) = k.toNat := by omega
    rw [e1, ← ext_ext a gone k.toNat (by omega)]
    clear e1
    go_enter Try.func15, Try.ntmps15
    go_wp2_with fail
    generalize hW : (w.alloc (Obj.cells #[Value.string a, Value.int .i64 gone, Value.int .i64 most] 29)).alloc (Obj.cells #[Value.string { data := #[] }, Value.int .i64 0, Value.int .i64 0] 29) = W0
    obtain ⟨B0, B1, K0⟩ := boxes04 hW
    clear hW
    refine (rtext_any _ _ _ _ hg (by unfold maxLen; omega)).mono ?_
    rintro e w1 ⟨rfl, k1⟩
    have K1 := K0.trans k1
    have B0 := B0.keeps k1 id
    have B1 := B1.keeps k1 id
    obtain ⟨c0, c1, c2⟩ := B0.cells3
    obtain ⟨d0, d1, d2⟩ := B1.cells3
    have f1 := B0.frozen 1
    have g0 := B1.frozen 0
    have g1 := B1.frozen 1
    have g2 := B1.frozen 2
    go_wp2
    refine ret_cell_tmp rfl (w.heap.size + 1) 29 _ _ rfl ((((B1.far (p := ⟨w.heap.size, 1, none⟩) (by simp) _).set_ 0 _).set_ 1 _).set_ 2 _) Try.underlying29 rfl (by kernel_rfl) rfl ⟨by first | rfl | exact take_eq (by omega), ?_⟩
    (repeat (first | (with_reducible assumption) | (with_reducible exact Keeps.refl _ _) | refine Keeps.drew ?_ | refine Keeps.drewN ?_ _ | refine Keeps.setCell ?_ (by simp) _ | refine Keeps.setRow ?_ (by simp) _ | refine Keeps.alloc ?_ _))
  · have e1 : min k.toNat (a.size - gone) = 0 := by omega
    rw [e1, show a.extract gone (gone + 0) = ByteArray.empty from ba_ext (by simp), Nat.add_zero]
    clear e1
    go_enter Try.func15, Try.ntmps15
    go_wp2_with fail
    generalize hW : (w.alloc (Obj.cells #[Value.string a, Value.int .i64 gone, Value.int .i64 most] 29)).alloc (Obj.cells #[Value.string { data := #[] }, Value.int .i64 0, Value.int .i64 0] 29) = W0
    obtain ⟨B0, B1, K0⟩ := boxes04 hW
    clear hW
    refine (rtext_any _ _ _ _ hg (by unfold maxLen; omega)).mono ?_
    rintro e w1 ⟨rfl, k1⟩
    have K1 := K0.trans k1
    have B0 := B0.keeps k1 id
    have B1 := B1.keeps k1 id
    obtain ⟨c0, c1, c2⟩ := B0.cells3
    obtain ⟨d0, d1, d2⟩ := B1.cells3
    have f1 := B0.frozen 1
    have g0 := B1.frozen 0
    have g1 := B1.frozen 1
    have g2 := B1.frozen 2
    go_wp2
    refine ret_cell_tmp rfl (w.heap.size + 1) 29 _ _ rfl ((((B1.far (p := ⟨w.heap.size, 1, none⟩) (by simp) _).set_ 0 _).set_ 1 _).set_ 2 _) Try.underlying29 rfl (by kernel_rfl) rfl ⟨by first | rfl | exact take_eq (by omega), ?_⟩
    (repeat (first | (with_reducible assumption) | (with_reducible exact Keeps.refl _ _) | refine Keeps.drew ?_ | refine Keeps.drewN ?_ _ | refine Keeps.setCell ?_ (by simp) _ | refine Keeps.setRow ?_ (by simp) _ | refine Keeps.alloc ?_ _))
end
end Go.Proofs.Ytclgjcdkjgkchaa
