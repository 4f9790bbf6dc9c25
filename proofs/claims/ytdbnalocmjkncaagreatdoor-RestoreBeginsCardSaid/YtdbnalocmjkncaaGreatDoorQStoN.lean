/-
  store: the names of all files, rising.
-/
import Derived.Test.YtdbnalocmjkncaaGreatDoorQGround2
import Derived.Test.YtdbnalocmjkncaaGreatDoorQShelf
import Derived.Test.YtdbnalocmjkncaaGreatDoorQShelfZ
namespace Go.Proofs.YtdbnalocmjkncaaGreatDoor
open Go.RowKit Go.Maps Go.Sort Go.Shelf Go.Proofs

/-- slices.Sort's two contracts at the fence that asks nothing -/
theorem stoSorts (m : Nat) : AnyZ.SortsIn Tryz.prog Tryz.sortedA_ren Fence.wide m :=
  ⟨fun blk off cap ss W hH hblk hsz => callsIn_wide.2 (Tryz.slices_Sort_string blk off cap ss W hH hblk hsz), fun p cap W => callsIn_wide.2 (Tryz.slices_Sort_string_none p cap W)⟩

/-- slices.Sorted(maps.Keys(m)) -/
theorem sorted_keys (w : World) (b nn : Nat) (D0 : DataW Unit) (R : Value → Option (DataW Unit × List MemPlace)) (hown : w.ownsMap Tryz.prog 9 R b nn D0) (hmax : Maps.size D0 ≤ 4294967296) :
    Calls Tryz.prog 150 #[.func (.func 195) #[] #[.pointer (some ⟨w.heap.size, 0, none⟩)]] (w.alloc (.cells #[.map (some b)] 79)) fun e w' => ∃ (v : Value) (ss : List (List UInt8)), e = .returned v ∧ ss.Perm (strKeys D0) ∧
      w'.ownsRow (w.heap.size + 1) 9 1 v ss.length ((ss.mergeSort (fun x y => decide (x ≤ y))).map encStr) ∧ Keeps (fun _ => False) w w' := by
  refine (callsIn_wide (n := 5)).1 ?_
  have hbl := hown.lt
  have hseq : SeqGives Fence.wide 2 Tryz.prog 195 #[.pointer (some ⟨w.heap.size, 0, none⟩)] encStr (fun ss => ss.Perm (strKeys D0)) (Maps.size D0) (w.alloc (.cells #[.map (some b)] 79)) :=
    AnyZ.keys_gives (ρ := Tryz.keysA_ren) { Tryz.keysA with } Fence.wide _ trivial rfl (by omega) w.heap.size b nn D0 _ (by simp) (by simp) (by
      obtain ⟨es, clock, hb, Ft, hs, hD⟩ := hown
      exact ⟨es, clock, (Below.heap_alloc _ _ b hbl).trans hb, Ft, hs, hD⟩)
  have cS := AnyZ.sorted_in Tryz.sortedA Fence.wide 5 trivial trivial trivial trivial rfl (by omega) (stoSorts _) (enters_of Tryz.func194 (by kernel_rfl) rfl) 195 #[.pointer (some ⟨w.heap.size, 0, none⟩)] trivial (enters_of Tryz.func195 (by kernel_rfl) rfl) _ _ (by unfold maxLen; omega) (by omega) _ hseq
  refine cS.mono ?_
  rintro e w' ⟨v, ss, rfl, hS, hrow, _, hb⟩
  refine ⟨v, ss, rfl, hS, ?_, ?_⟩
  · rw [show (w.alloc (.cells #[.map (some b)] 79)).heap.size = w.heap.size + 1 by simp] at hrow
    exact hrow
  · exact ((Keeps.refl (fun _ => False) w).alloc _).trans (Keeps.of_below hb)
theorem keys_any (w : World) (mb : Option Nat) : Calls Tryz.prog 151 #[.map mb] w fun e w' => e = .returned (.func (.func 195) #[] #[.pointer (some ⟨w.heap.size, 0, none⟩)]) ∧ w' = w.alloc (.cells #[.map mb] 79) :=
  (callsIn_wide (n := 5)).1 (AnyZ.keys_in Tryz.keysA Fence.wide 5 trivial rfl mb w)
section
variable {w w' : World} {F S : Nat → Prop} {s M bad : Nat} {most : Int} {L : List SRep}
def namesV (L : List SRep) : List Value := (L.map fun r => r.f.name).map Value.string
set_option maxRecDepth 100000 in
theorem names_any (h : StoreAt w F s most bad M L) (hL : L.length ≤ 4294967296) :
    Calls Tryz.prog 93 #[.pointer (some ⟨s, 0, none⟩)] w fun e w' => (∃ v, e = .returned v ∧ OwnL w' w.heap.size 9 v (namesV L)) ∧ Keeps (fun _ => False) w w' := by
  have HM := Lib.hid (made_any h)
  have H := Lib.hid h
  obtain ⟨h0, h1, h2⟩ := h.top.cells3
  have hs := sorted_keys w M L.length (mapD SRep.nm SRep.p L) ptrR h.map (by unfold mapD Maps.size; simpa using hL)
  have HS := Lib.hid hs
  clear h hs
  go_enter Tryz.func93, Tryz.ntmps93
  go_wp2_with (first
    | (go_at_call 34; refine HM.out.mono ?_; rintro e w1 ⟨rfl, hw1⟩; obtain rfl : w = w1 := hw1.symm))
  refine (keys_any _ _).mono ?_
  rintro e w1 ⟨rfl, rfl⟩
  go_wp2_with fail
  refine HS.out.mono ?_
  rintro e w2 ⟨v, ss, rfl, hp, hrow, k⟩
  go_wp2_with fail
  go_ret
  refine ⟨⟨v, rfl, ?_⟩, k⟩
  have hk := keys_sorted H.out.rise hp
  have hl : ss.length = (namesV L).length := by
    rw [hp.length_eq, mapD_keys]; simp [namesV]
  have hr2 : w2.ownsRow (w.heap.size + 1) 9 1 v (namesV L).length (namesV L) := by
    have e1 : (ss.mergeSort fun x y => decide (x ≤ y)).map encStr = namesV L := by
      rw [hk]
      unfold namesV
      rw [List.map_map, List.map_map]
      rfl
    rw [e1, hl] at hrow
    exact hrow
  exact OwnL.more (show OwnL w2 (w.heap.size + 1) 9 v (namesV L) from hr2) (by omega)
set_option maxRecDepth 100000 in
theorem names_nil (w : World) : Calls Tryz.prog 93 #[.pointer none] w fun e w' => e = .returned (.slice none 0 0) ∧ w' = w := by
  go_enter Tryz.func93, Tryz.ntmps93
  go_wp2_with (go_at_call 34; refine (made_nil _).mono ?_; rintro e w1 ⟨rfl, rfl⟩)
  go_ret
  exact ⟨rfl, rfl⟩
end
end Go.Proofs.YtdbnalocmjkncaaGreatDoor
