/-
  works of law11: true, and only new blocks.
-/
import Derived.Test.YtgpfmkkkpdpdfaaDoorSame11
namespace Go.Proofs.YtgpfmkkkpdpdfaaDoor
open Go.RowKit Go.Maps

section
variable {w0 w w' w1 : World} {s M bad n : Nat} {most : Int} {L : List SRep}
theorem Sto.new (he : Ety w0) (k0 : Keeps (fun _ => False) w0 w) (k : Keeps (fun _ => False) w w1) (hs : StoreAt w1 (fun i => w.heap.size ≤ i) s most 0 M []) (h1 : 1 ≤ most) (h2 : most ≤ 16777216) : Sto w0 w1 s M most 0 [] 0 :=
  ⟨he, k0.trans k, hs.mono fun i hi => by have := k0.size; omega, ⟨by show ((0 : Nat) : Int) ≤ most; omega, fun f hf => by cases hf⟩, Nat.le_refl _, by omega, by omega, h1, h2⟩
theorem snew_ok (he : Ety w0) (k0 : Keeps (fun _ => False) w0 w) (h1 : 1 ≤ most) (h2 : most ≤ 16777216) : Calls Tryd.prog 33 #[.int .i64 most] w fun e w' => ∃ s M, e = .returned (.tuple #[.pointer (some ⟨s, 0, none⟩), .nilIface]) ∧ Sto w0 w' s M most 0 [] 0 ∧ Keeps (fun _ => False) w w' := by
  refine (snew_any w most).mono ?_
  rintro e w' ⟨⟨_, _, s, M, he', hs⟩ | ⟨hn, _⟩, k⟩
  · exact ⟨s, M, he', Sto.new he k0 k hs h1 h2, k⟩
  · exact absurd ⟨h1, h2⟩ hn
theorem snew_no (h : ¬ (1 ≤ most ∧ most ≤ 16777216)) : Calls Tryd.prog 33 #[.int .i64 most] w fun e w' => ∃ v, e = .returned (.tuple #[.pointer none, v]) ∧ ErrV w' 2 v ∧ Keeps (fun _ => False) w w' := by
  refine (snew_any w most).mono ?_
  rintro e w' ⟨⟨h1, h2, _⟩ | ⟨_, v, he, hv⟩, k⟩
  · exact absurd ⟨h1, h2⟩ h
  · exact ⟨v, he, hv, k⟩
theorem ErrV.other {c : Int} {v : Value} {F : Nat → Prop} (h : ErrV w c v) (k : Keeps (fun i => F i ∧ StT w i) w w') : ErrV w' c v :=
  h.keeps k fun i cs hb e => e.2.not hb (by decide) (by decide) (by decide)
theorem has_err (w : World) {c : Int} {v : Value} (h : ErrV w c v) (hc : c ≠ 0) : Calls Tryd.prog 68 #[v, .int .i64 c] w fun e w' => e = .returned (.bool true) ∧ Keeps (fun _ => False) w w' := by
  rcases h with ⟨h, _⟩ | ⟨_, l, hl⟩
  · exact absurd h hc
  · refine (has_chain w l c c v hl).mono ?_
    rintro e w' ⟨rfl, k⟩
    exact ⟨by rw [decide_eq_true ⟨hc, rfl⟩], k⟩
theorem sread_none (h : Sto w0 w s M most bad L n) {nm : ByteArray} (hn : nm.size ≤ maxLen) (hg : getG SFile.name nm (L.map SRep.f) = none) : Calls Tryd.prog 16 #[.pointer (some ⟨s, 0, none⟩), .string nm] w fun e w' => e = .returned (.tuple #[.string ⟨#[]⟩, .bool false]) ∧ w' = w := by
  have := read_any h.store nm hn
  rw [get_f] at hg
  rwa [show getG SRep.nm nm L = none from Option.map_eq_none_iff.1 hg] at this
theorem sread_some (h : Sto w0 w s M most bad L n) {nm : ByteArray} (hn : nm.size ≤ maxLen) {f : SFile} (hg : getG SFile.name nm (L.map SRep.f) = some f) : Calls Tryd.prog 16 #[.pointer (some ⟨s, 0, none⟩), .string nm] w fun e w' => e = .returned (.tuple #[.string f.data, .bool true]) ∧ w' = w := by
  have := read_any h.store nm hn
  rw [get_f] at hg
  obtain ⟨r, hr, rfl⟩ := Option.map_eq_some_iff.1 hg
  rwa [hr] at this
theorem ssize_some (h : Sto w0 w s M most bad L n) {nm : ByteArray} (hn : nm.size ≤ maxLen) {f : SFile} (hg : getG SFile.name nm (L.map SRep.f) = some f) : Calls Tryd.prog 42 #[.pointer (some ⟨s, 0, none⟩), .string nm] w fun e w' => e = .returned (.tuple #[.int .i64 (f.data.size : Nat), .int .i64 (f.sure : Nat)]) ∧ Keeps (fun _ => False) w w' := by
  have := size_any h.store nm hn
  rw [get_f] at hg
  obtain ⟨r, hr, rfl⟩ := Option.map_eq_some_iff.1 hg
  rwa [hr] at this
theorem ssize_none (h : Sto w0 w s M most bad L n) {nm : ByteArray} (hn : nm.size ≤ maxLen) (hg : getG SFile.name nm (L.map SRep.f) = none) : Calls Tryd.prog 42 #[.pointer (some ⟨s, 0, none⟩), .string nm] w fun e w' => e = .returned (.tuple #[.int .i64 0, .int .i64 0]) ∧ Keeps (fun _ => False) w w' := by
  have := size_any h.store nm hn
  rw [get_f] at hg
  rwa [show getG SRep.nm nm L = none from Option.map_eq_none_iff.1 hg] at this
theorem stotal (h : Sto w0 w s M most bad L n) : Calls Tryd.prog 46 #[.pointer (some ⟨s, 0, none⟩)] w fun e w' => e = .returned (.int .i64 (totF (L.map SRep.f) : Nat)) ∧ Keeps (fun _ => False) w w' := by
  have := total_any h.store (by have := h.tot; have := h.m2; omega)
  rwa [tot_f]
end

abbrev cx : ByteArray := ⟨#[120]⟩
abbrev cy : ByteArray := ⟨#[121]⟩
set_option maxRecDepth 100000 in
set_option maxHeartbeats 2000000 in
theorem works11 (w : World) (he : Ety w) : Calls Tryd.prog 32 #[] w fun e w' => e = .returned (.bool true) ∧ Keeps (fun _ => False) w w' := by
  have HE := Lib.hid he
  clear he
  go_enter Tryd.func32, Tryd.ntmps32
  go_wp2_with fail
  refine (snew_ok HE.out (Keeps.refl _ _) (by decide) (by decide)).mono ?_
  rintro e w1 ⟨s, M, rfl, S1, k1⟩
  have HS1 := Lib.hid S1
  have HK1 := Lib.hid k1
  clear S1 k1
  go_wp2_with fail
  refine (snew_no (by decide)).mono ?_
  rintro e w2 ⟨ve, rfl, Ee, k2⟩
  have HS2 := Lib.hid (HS1.out.same k2)
  have HEe := Lib.hid Ee
  clear Ee k2
  go_wp2_with fail
  refine (sappend HS2.out (by decide) cx ⟨#[97, 98, 99]⟩ (by decide)).mono ?_
  rintro e w3 ⟨v, L3, rfl, E, S, l, k⟩
  rw [show appendP 10 0 (List.map SRep.f []) cx ⟨#[97, 98, 99]⟩ = (0, 0, [⟨cx, ⟨#[97, 98, 99]⟩, 0⟩]) from by kernel_rfl] at E S l
  obtain rfl := E.nil_
  have HS3 := Lib.hid S
  have HL3 := Lib.hid l
  have HEe3 := Lib.hid (HEe.out.other k)
  clear E S l k
  go_wp2_with fail
  refine (ssync HS3.out (by decide) cx).mono ?_
  rintro e w4 ⟨v, L4, rfl, E, S, l, k⟩
  rw [HL3.out, show syncP 0 [⟨cx, ⟨#[97, 98, 99]⟩, 0⟩] cx = (0, 0, [⟨cx, ⟨#[97, 98, 99]⟩, 3⟩]) from by kernel_rfl] at E S l
  obtain rfl := E.nil_
  have HS4 := Lib.hid S
  have HL4 := Lib.hid l
  have HEe4 := Lib.hid (HEe3.out.other k)
  clear E S l k
  go_wp2_with fail
  refine (sappend HS4.out (by decide) cx ⟨#[100, 101, 102, 103]⟩ (by decide)).mono ?_
  rintro e w5 ⟨v, L5, rfl, E, S, l, k⟩
  rw [HL4.out, show appendP 10 0 [⟨cx, ⟨#[97, 98, 99]⟩, 3⟩] cx ⟨#[100, 101, 102, 103]⟩ = (0, 0, [⟨cx, ⟨#[97, 98, 99, 100, 101, 102, 103]⟩, 3⟩]) from by kernel_rfl] at E S l
  obtain rfl := E.nil_
  have HS5 := Lib.hid S
  have HL5 := Lib.hid l
  have HEe5 := Lib.hid (HEe4.out.other k)
  clear E S l k
  go_wp2_with fail
  refine (sappend HS5.out (by decide) cx ⟨#[49, 50, 51, 52, 53]⟩ (by decide)).mono ?_
  rintro e w6 ⟨vd, L6, rfl, E, S, l, k⟩
  rw [HL5.out, show appendP 10 0 [⟨cx, ⟨#[97, 98, 99, 100, 101, 102, 103]⟩, 3⟩] cx ⟨#[49, 50, 51, 52, 53]⟩ = (6, 0, [⟨cx, ⟨#[97, 98, 99, 100, 101, 102, 103]⟩, 3⟩]) from by kernel_rfl] at E S l
  have HS6 := Lib.hid S
  have HL6 := Lib.hid l
  have HEd6 := Lib.hid E
  have HEe6 := Lib.hid (HEe5.out.other k)
  clear E S l k
  go_wp2_with fail
  refine (sfail HS6.out 1 (by decide)).mono ?_
  rintro e w7 ⟨L7, rfl, S, l, k⟩
  rw [HL6.out] at l
  have HS7 := Lib.hid S
  have HL7 := Lib.hid l
  have HEd7 := Lib.hid (HEd6.out.other k)
  have HEe7 := Lib.hid (HEe6.out.other k)
  clear S l k
  go_wp2_with fail
  refine (sappend HS7.out (by decide) cx ⟨#[122]⟩ (by decide)).mono ?_
  rintro e w8 ⟨vf, L8, rfl, E, S, l, k⟩
  rw [HL7.out, show appendP 10 (1 : Int).toNat [⟨cx, ⟨#[97, 98, 99, 100, 101, 102, 103]⟩, 3⟩] cx ⟨#[122]⟩ = (12, 0, [⟨cx, ⟨#[97, 98, 99, 100, 101, 102, 103]⟩, 3⟩]) from by kernel_rfl] at E S l
  have HS8 := Lib.hid S
  have HL8 := Lib.hid l
  have HEf8 := Lib.hid E
  have HEd8 := Lib.hid (HEd7.out.other k)
  have HEe8 := Lib.hid (HEe7.out.other k)
  clear E S l k
  go_wp2_with fail
  refine (srename HS8.out (by decide) cx cy).mono ?_
  rintro e w9 ⟨v, L9, rfl, E, S, l, k⟩
  rw [HL8.out, show renameP 0 [⟨cx, ⟨#[97, 98, 99, 100, 101, 102, 103]⟩, 3⟩] cx cy = (0, 0, [⟨cy, ⟨#[97, 98, 99, 100, 101, 102, 103]⟩, 3⟩]) from by kernel_rfl] at E S l
  obtain rfl := E.nil_
  have HS9 := Lib.hid S
  have HL9 := Lib.hid l
  have HEf9 := Lib.hid (HEf8.out.other k)
  have HEd9 := Lib.hid (HEd8.out.other k)
  have HEe9 := Lib.hid (HEe8.out.other k)
  clear E S l k
  go_wp2_with fail
  refine (ssize_some HS9.out (nm := cy) (by decide) (by rw [HL9.out]; rfl)).mono ?_
  rintro e w10 ⟨rfl, k⟩
  have HS10 := Lib.hid (HS9.out.same k)
  have HEf10 := Lib.hid (HEf9.out.keeps0 k)
  have HEd10 := Lib.hid (HEd9.out.keeps0 k)
  have HEe10 := Lib.hid (HEe9.out.keeps0 k)
  clear k
  go_wp2_with fail
  refine (scrash2 (HS10.out.same ((Keeps.refl _ _).alloc _)) [2] (some ⟨w10.heap.size, 0, none⟩) 1 1 (fun W kk => sl_one (Blk.new _ _ _) kk) (by decide) (by decide)).mono ?_
  rintro e w11 ⟨L11, rfl, S, l, k⟩
  rw [HL9.out, show crashP [2] [⟨cy, ⟨#[97, 98, 99, 100, 101, 102, 103]⟩, 3⟩] = [⟨cy, ⟨#[97, 98, 99, 100, 101]⟩, 5⟩] from by kernel_rfl] at l
  have HS11 := Lib.hid S
  have HL11 := Lib.hid l
  have HEf11 := Lib.hid ((HEf10.out.keeps0 ((Keeps.refl _ _).alloc _)).other k)
  have HEd11 := Lib.hid ((HEd10.out.keeps0 ((Keeps.refl _ _).alloc _)).other k)
  have HEe11 := Lib.hid ((HEe10.out.keeps0 ((Keeps.refl _ _).alloc _)).other k)
  clear S l k
  go_wp2_with fail
  refine (sread_some HS11.out (nm := cy) (by decide) (by rw [HL11.out]; rfl)).mono ?_
  rintro e w12 ⟨rfl, hw⟩
  obtain rfl : w11 = w12 := hw.symm
  go_wp2_with fail
  refine (of_err _ HEe11.out HS11.out.etyw).mono ?_
  rintro e w13 ⟨rfl, k⟩
  have HS13 := Lib.hid (HS11.out.same k)
  have HEf13 := Lib.hid (HEf11.out.keeps0 k)
  have HEd13 := Lib.hid (HEd11.out.keeps0 k)
  clear k
  go_wp2_with fail
  refine (has_err _ HEd13.out (by decide)).mono ?_
  rintro e w14 ⟨rfl, k⟩
  have HS14 := Lib.hid (HS13.out.same k)
  have HEf14 := Lib.hid (HEf13.out.keeps0 k)
  clear k
  go_wp2_with fail
  refine (of_err _ HEf14.out HS14.out.etyw).mono ?_
  rintro e w15 ⟨rfl, k⟩
  have HS15 := Lib.hid (HS14.out.same k)
  clear k
  go_wp2_with fail
  refine (ssync HS15.out (by decide) cx).mono ?_
  rintro e w16 ⟨vg, L16, rfl, E, S, l, k⟩
  rw [HL11.out, show syncP 0 [⟨cy, ⟨#[97, 98, 99, 100, 101]⟩, 5⟩] cx = (7, 0, [⟨cy, ⟨#[97, 98, 99, 100, 101]⟩, 5⟩]) from by kernel_rfl] at E S l
  have HS16 := Lib.hid S
  have HL16 := Lib.hid l
  have HEg16 := Lib.hid E
  clear E S l k
  go_wp2_with fail
  refine (of_err _ HEg16.out HS16.out.etyw).mono ?_
  rintro e w17 ⟨rfl, k⟩
  have HS17 := Lib.hid (HS16.out.same k)
  clear k
  go_wp2_with fail
  refine (sappend HS17.out (by decide) ⟨#[97, 47, 98]⟩ ⟨#[]⟩ (by decide)).mono ?_
  rintro e w18 ⟨vh, L18, rfl, E, S, l, k⟩
  rw [HL16.out, show appendP 10 0 [⟨cy, ⟨#[97, 98, 99, 100, 101]⟩, 5⟩] ⟨#[97, 47, 98]⟩ ⟨#[]⟩ = (1, 0, [⟨cy, ⟨#[97, 98, 99, 100, 101]⟩, 5⟩]) from by kernel_rfl] at E S l
  have HS18 := Lib.hid S
  have HL18 := Lib.hid l
  have HEh18 := Lib.hid E
  clear E S l k
  go_wp2_with fail
  refine (of_err _ HEh18.out HS18.out.etyw).mono ?_
  rintro e w19 ⟨rfl, k⟩
  have HS19 := Lib.hid (HS18.out.same k)
  clear k
  go_wp2_with fail
  refine (stotal HS19.out).mono ?_
  rw [HL18.out]
  rintro e w20 ⟨rfl, k⟩
  have HK20 := Lib.hid (HS19.out.keeps.trans k)
  clear k
  rw [show totF [⟨cy, ⟨#[97, 98, 99, 100, 101]⟩, 5⟩] = 5 from by kernel_rfl]
  go_wp2_with fail
  go_ret
  exact ⟨rfl, HK20.out⟩
end Go.Proofs.YtgpfmkkkpdpdfaaDoor
