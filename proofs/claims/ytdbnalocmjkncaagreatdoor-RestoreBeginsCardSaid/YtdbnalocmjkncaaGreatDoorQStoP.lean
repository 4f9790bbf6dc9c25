/-
  store: New, and a copy.
-/
import Derived.Test.YtdbnalocmjkncaaGreatDoorQStoK
namespace Go.Proofs.YtdbnalocmjkncaaGreatDoor
open Go.RowKit Go.Maps

section
variable {w w' : World} {F S : Nat → Prop} {s M bad : Nat} {most : Int} {L : List SRep}
/-- a store without files -/
theorem StoreAt.empty (w : World) (most : Int) (bad : Nat) : StoreAt ((w.alloc (.map #[] 0)).alloc (.cells #[.map (some w.heap.size), .int .i64 most, .int .i64 bad] 81)) (fun i => w.heap.size ≤ i) (w.heap.size + 1) most bad w.heap.size [] := by
  refine ⟨?_, ?_, by simp, Nat.le_refl _, fun r hr => (by cases hr), List.Pairwise.nil, List.Pairwise.nil⟩
  · have := Blk.new (w.alloc (.map #[] 0)) 81 #[.map (some w.heap.size), .int .i64 most, .int .i64 bad]
    rwa [show (w.alloc (.map #[] 0)).heap.size = w.heap.size + 1 by simp] at this
  · exact (World.ownsMap_made w Tryz.prog 9 ptrR).alloc _
set_option maxRecDepth 100000 in
theorem snew_any (w : World) (most : Int) : Calls Tryz.prog 28 #[.int .i64 most] w fun e w' =>
    ((1 ≤ most ∧ most ≤ 16777216 ∧ ∃ s M, e = .returned (.tuple #[.pointer (some ⟨s, 0, none⟩), .nilIface]) ∧ StoreAt w' (fun i => w.heap.size ≤ i) s most 0 M []) ∨
     (¬ (1 ≤ most ∧ most ≤ 16777216) ∧ ∃ v, e = .returned (.tuple #[.pointer none, v]) ∧ ErrV w' 2 v)) ∧ Keeps (fun _ => False) w w' := by
  by_cases h : 1 ≤ most ∧ most ≤ 16777216
  · obtain ⟨h1, h2⟩ := h
    have hmm := @run_makeMap Tryz.prog
    have hs := Lib.hid (StoreAt.empty w most 0)
    go_enter Tryz.func28, Tryz.ntmps28
    go_wp2_with fail
    go_ret2
    exact ⟨.inl ⟨h1, h2, _, _, rfl, hs.out⟩, ((Keeps.refl _ _).alloc _).alloc _⟩
  · have hn := Lib.hid h
    have hh : most < 1 ∨ 16777216 < most := by omega
    clear h
    rcases hh with hh | hh
    all_goals
      go_enter Tryz.func28, Tryz.ntmps28
      go_wp2_with fail
      refine (new_err _ 2 _ (by decide)).mono ?_
      rintro e w2 ⟨⟨a, rfl, hch⟩, k2⟩
      have HCH := Lib.hid hch
      have HK2 := Lib.hid k2
      clear hch k2
      go_wp2_with fail
      go_ret2
      exact ⟨.inr ⟨hn.out, _, rfl, .inr ⟨by decide, _, HCH.out⟩⟩, HK2.out⟩

theorem appended_sl {w w' : World} {e : TypeId} {v v' : Value} {vs : List Value} (h : Appended w w' e v v' vs) : ∃ a c, v' = .slice a vs.length c := h.1.sl
/-- what came already, of a rising list -/
theorem filt_step {α : Type} {nm : α → ByteArray} {left : Lit → Bool} : ∀ {l : List α} {f : α}, Rise nm l → f ∈ l → left (.string (nm f).data.toList) = true →
    putG nm f (l.filter fun x => !left (.string (nm x).data.toList)) = l.filter fun x => !(left (.string (nm x).data.toList) && !Lit.sameKey (.string (nm x).data.toList) (.string (nm f).data.toList))
  | [], _, _, h, _ => by cases h
  | a :: l, f, hr, h, hl => by
    obtain ⟨h1, h2⟩ := List.pairwise_cons.1 hr
    have hs : ∀ b : α, Lit.sameKey (.string (nm b).data.toList) (.string (nm f).data.toList) = decide (nm b = nm f) := fun b => ent_same (nm := nm) (pt := fun _ => 0) (nm f) b
    rcases List.mem_cons.1 h with rfl | h'
    · rw [List.filter_cons_of_neg (by rw [hl]; simp), List.filter_cons_of_pos (by rw [hs, hl]; simp)]
      have hc : (l.filter fun x => !left (.string (nm x).data.toList)) = l.filter fun x => !(left (.string (nm x).data.toList) && !Lit.sameKey (.string (nm x).data.toList) (.string (nm f).data.toList)) := by
        refine List.filter_congr fun b hb => ?_
        have hne : nm b ≠ nm f := fun e => nmLt_ne (h1 b hb) e.symm
        rw [hs, decide_eq_false hne]; simp
      rw [← hc]
      unfold putG
      have hd : delG nm (nm f) (l.filter fun x => !left (.string (nm x).data.toList)) = l.filter fun x => !left (.string (nm x).data.toList) := by
        refine List.filter_eq_self.2 fun b hb => ?_
        have hne : nm b ≠ nm f := fun e => nmLt_ne (h1 b (List.mem_filter.1 hb).1) e.symm
        simpa using hne
      rw [hd]
      exact insG_first fun b hb => h1 b (List.mem_filter.1 hb).1
    · have ih := filt_step h2 h' hl
      have hne : nm a ≠ nm f := nmLt_ne (h1 f h')
      cases hla : left (.string (nm a).data.toList) with
      | true =>
        rw [List.filter_cons_of_neg (by rw [hla]; simp), List.filter_cons_of_neg (by rw [hs, decide_eq_false hne, hla]; simp)]
        exact ih
      | false =>
        rw [List.filter_cons_of_pos (by rw [hla]; rfl), List.filter_cons_of_pos (by rw [hla]; rfl)]
        unfold putG at ih ⊢
        have hd : delG nm (nm f) (a :: l.filter fun x => !left (.string (nm x).data.toList)) = a :: delG nm (nm f) (l.filter fun x => !left (.string (nm x).data.toList)) := by unfold delG; rw [List.filter_cons_of_pos (by simpa using hne)]
        rw [hd]
        unfold insG
        rw [if_neg (by rw [nmLt_asymm (h1 f h')]; simp), ih]
theorem filt_start {L : List SRep} (h : Rise SRep.nm L) : (L.map SRep.f).filter (fun x => !(Maps.has (mapD SRep.nm SRep.p L)) (.string x.name.data.toList)) = [] := by
  refine List.filter_eq_nil_iff.2 fun x hx => ?_
  obtain ⟨r, hr, rfl⟩ := List.mem_map.1 hx
  rw [mapD_has, show getG SRep.nm r.f.name L = some r from getG_of_mem h hr]
  simp
theorem ranges_keeps {H : Type} {P : Program} {k : TypeId} {R : Value → Option (DataW H × List MemPlace)} {b r n : Nat} {D : DataW H} {left : Lit → Bool} {cnt : Nat} (h : w.ranges P k R b r n D left cnt) (kk : Keeps S w w') (hb : ¬ S b) (hr : ¬ S r) : w'.ranges P k R b r n D left cnt := by
  have h1 := h.owns.lt
  have h2 := h.lt
  obtain ⟨es, clock, since, seen, c0, hb', F, hs, hD, hr', rest⟩ := h
  exact ⟨es, clock, since, seen, c0, (kk.block b h1 hb).trans hb', F, hs, hD, (kk.block r h2 hr).trans hr', rest⟩
end
end Go.Proofs.YtdbnalocmjkncaaGreatDoor
