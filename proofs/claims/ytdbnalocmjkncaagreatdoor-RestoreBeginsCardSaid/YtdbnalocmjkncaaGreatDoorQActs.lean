/-
  A store's acts in few words: New, and what is read of it.
-/
import Derived.Test.YtdbnalocmjkncaaGreatDoorQBoth
namespace Go.Proofs.YtdbnalocmjkncaaGreatDoor
open Go.RowKit Go.Maps

section
variable [Res] {w0 w w' w1 : World} {s M bad n : Nat} {most : Int} {L : List SRep}
theorem Sto.new (he : Ety w0) (k0 : Keeps (fun _ => False) w0 w) (k : Keeps (fun _ => False) w w1) (hs : StoreAt w1 (fun i => w.heap.size ≤ i) s most 0 M []) (h1 : 1 ≤ most) (h2 : most ≤ 16777216) (hr : ∀ i, Res.R i → i < w.heap.size := by intro i h; exact h.elim) : Sto w0 w1 s M most 0 [] 0 :=
  ⟨he, k0.trans k, hs.mono fun i hi => ⟨by have := k0.size; omega, fun hR => by have := hr i hR; omega⟩, fun i hi => Nat.lt_of_lt_of_le (hr i hi) k.size, ⟨by show ((0 : Nat) : Int) ≤ most; omega, fun f hf => by cases hf⟩, Nat.le_refl _, by omega, by omega, h1, h2⟩
theorem snew_ok (he : Ety w0) (k0 : Keeps (fun _ => False) w0 w) (h1 : 1 ≤ most) (h2 : most ≤ 16777216) (hr : ∀ i, Res.R i → i < w.heap.size := by intro i h; exact h.elim) : Calls Tryz.prog 28 #[.int .i64 most] w fun e w' => ∃ s M, e = .returned (.tuple #[.pointer (some ⟨s, 0, none⟩), .nilIface]) ∧ Sto w0 w' s M most 0 [] 0 ∧ Keeps (fun _ => False) w w' := by
  refine (snew_any w most).mono ?_
  rintro e w' ⟨⟨_, _, s, M, he', hs⟩ | ⟨hn, _⟩, k⟩
  · exact ⟨s, M, he', Sto.new he k0 k hs h1 h2 hr, k⟩
  · exact absurd ⟨h1, h2⟩ hn
omit [Res] in
theorem snew_no (h : ¬ (1 ≤ most ∧ most ≤ 16777216)) : Calls Tryz.prog 28 #[.int .i64 most] w fun e w' => ∃ v, e = .returned (.tuple #[.pointer none, v]) ∧ ErrV w' 2 v ∧ Keeps (fun _ => False) w w' := by
  refine (snew_any w most).mono ?_
  rintro e w' ⟨⟨h1, h2, _⟩ | ⟨_, v, he, hv⟩, k⟩
  · exact absurd ⟨h1, h2⟩ h
  · exact ⟨v, he, hv, k⟩
theorem ErrV.other {c : Int} {v : Value} {F : Nat → Prop} (h : ErrV w c v) (k : Keeps (fun i => F i ∧ StR w i) w w') : ErrV w' c v :=
  h.keeps k fun i cs hb e => e.2.not hb (by decide) (by decide) (by decide)
omit [Res] in
theorem has_err (w : World) {c : Int} {v : Value} (h : ErrV w c v) (hc : c ≠ 0) : Calls Tryz.prog 142 #[v, .int .i64 c] w fun e w' => e = .returned (.bool true) ∧ Keeps (fun _ => False) w w' := by
  rcases h with ⟨h, _⟩ | ⟨_, l, hl⟩
  · exact absurd h hc
  · refine (has_chain w l c c v hl).mono ?_
    rintro e w' ⟨rfl, k⟩
    exact ⟨by rw [decide_eq_true ⟨hc, rfl⟩], k⟩
theorem sread_none (h : Sto w0 w s M most bad L n) {nm : ByteArray} (hn : nm.size ≤ maxLen) (hg : getG SFile.name nm (L.map SRep.f) = none) : Calls Tryz.prog 8 #[.pointer (some ⟨s, 0, none⟩), .string nm] w fun e w' => e = .returned (.tuple #[.string ⟨#[]⟩, .bool false]) ∧ w' = w := by
  have := read_any h.store nm hn
  rw [get_f] at hg
  rwa [show getG SRep.nm nm L = none from Option.map_eq_none_iff.1 hg] at this
theorem sread_some (h : Sto w0 w s M most bad L n) {nm : ByteArray} (hn : nm.size ≤ maxLen) {f : SFile} (hg : getG SFile.name nm (L.map SRep.f) = some f) : Calls Tryz.prog 8 #[.pointer (some ⟨s, 0, none⟩), .string nm] w fun e w' => e = .returned (.tuple #[.string f.data, .bool true]) ∧ w' = w := by
  have := read_any h.store nm hn
  rw [get_f] at hg
  obtain ⟨r, hr, rfl⟩ := Option.map_eq_some_iff.1 hg
  rwa [hr] at this
theorem ssize_some (h : Sto w0 w s M most bad L n) {nm : ByteArray} (hn : nm.size ≤ maxLen) {f : SFile} (hg : getG SFile.name nm (L.map SRep.f) = some f) : Calls Tryz.prog 147 #[.pointer (some ⟨s, 0, none⟩), .string nm] w fun e w' => e = .returned (.tuple #[.int .i64 (f.data.size : Nat), .int .i64 (f.sure : Nat)]) ∧ Keeps (fun _ => False) w w' := by
  have := size_any h.store nm hn
  rw [get_f] at hg
  obtain ⟨r, hr, rfl⟩ := Option.map_eq_some_iff.1 hg
  rwa [hr] at this
theorem ssize_none (h : Sto w0 w s M most bad L n) {nm : ByteArray} (hn : nm.size ≤ maxLen) (hg : getG SFile.name nm (L.map SRep.f) = none) : Calls Tryz.prog 147 #[.pointer (some ⟨s, 0, none⟩), .string nm] w fun e w' => e = .returned (.tuple #[.int .i64 0, .int .i64 0]) ∧ Keeps (fun _ => False) w w' := by
  have := size_any h.store nm hn
  rw [get_f] at hg
  rwa [show getG SRep.nm nm L = none from Option.map_eq_none_iff.1 hg] at this
theorem stotal (h : Sto w0 w s M most bad L n) : Calls Tryz.prog 78 #[.pointer (some ⟨s, 0, none⟩)] w fun e w' => e = .returned (.int .i64 (totF (L.map SRep.f) : Nat)) ∧ Keeps (fun _ => False) w w' := by
  have := total_any h.store (by have := h.tot; have := h.m2; omega)
  rwa [tot_f]
end

end Go.Proofs.YtdbnalocmjkncaaGreatDoor
