/-
  journal: a journal over a store, while acts go on: made, Rests, Lost, turn, put.
-/
import Derived.Test.YtdbnalocmjkncaaGreatDoorQGensC
import Derived.Test.YtdbnalocmjkncaaGreatDoorQJourP
import Derived.Test.YtdbnalocmjkncaaGreatDoorQGround3
namespace Go.Proofs.YtdbnalocmjkncaaGreatDoor
open Go.RowKit Go.Maps
variable [Res]

/-- a journal at jb, over the store at s -/
structure Jour (w0 w : World) (s M jb : Nat) (most : Int) (bad : Nat) (L : List SRep) (n : Nat) (base : ByteArray) (k size : Nat) (rest : Bool) (lost : Nat) : Prop where
  sto : Sto w0 w s M most bad L n
  blk : Blk w jb 160 #[.pointer (some ⟨s, 0, none⟩), .string base, .int .i64 k, .int .i64 size, .bool rest, .int .i64 lost]
  lo : w0.heap.size ≤ jb
  k1 : 1 ≤ k ∧ k ≤ 16
  sz : 64 ≤ size ∧ size ≤ 1048576
  bz : base.size ≤ 1048576
  ll : lost ≤ 1048576
omit [Res] in
theorem Blk.all6 {w : World} {g : Nat} {t : TypeId} {a b c d e f : Value} (h : Blk w g t #[a, b, c, d, e, f]) : (w.cell? ⟨g, 0, none⟩ = some a ∧ w.cell? ⟨g, 1, none⟩ = some b ∧ w.cell? ⟨g, 2, none⟩ = some c ∧ w.cell? ⟨g, 3, none⟩ = some d ∧ w.cell? ⟨g, 4, none⟩ = some e ∧ w.cell? ⟨g, 5, none⟩ = some f) ∧ w.frozen? ⟨g, 4, none⟩ = false ∧ w.frozen? ⟨g, 5, none⟩ = false := ⟨⟨h.cell 0, h.cell 1, h.cell 2, h.cell 3, h.cell 4, h.cell 5⟩, h.frozen 4, h.frozen 5⟩
omit [Res] in
theorem heldP_is {k : Nat} (h : 1 ≤ k ∧ k ≤ 16) : heldP (k : Int) = k := by unfold heldP; omega
section
variable {w0 w w' : World} {s M jb bad n k size lost : Nat} {most : Int} {L : List SRep} {base : ByteArray} {rest : Bool}
theorem Jour.same (h : Jour w0 w s M jb most bad L n base k size rest lost) (kk : Keeps (fun _ => False) w w') : Jour w0 w' s M jb most bad L n base k size rest lost :=
  ⟨h.sto.same kk, h.blk.keeps kk id, h.lo, h.k1, h.sz, h.bz, h.ll⟩
/-- the store has acted -/
theorem Jour.move {bad' n' : Nat} {L' : List SRep} (h : Jour w0 w s M jb most bad L n base k size rest lost) (hS : Sto w0 w' s M most bad' L' n') (kk : Keeps (fun i => w0.heap.size ≤ i ∧ StR w i) w w') : Jour w0 w' s M jb most bad' L' n' base k size rest lost :=
  ⟨hS, h.blk.other kk (by decide) (by decide) (by decide), h.lo, h.k1, h.sz, h.bz, h.ll⟩
theorem Jour.le_n (h : Jour w0 w s M jb most bad L n base k size rest lost) {m : Nat} (hn : n ≤ m) (hm : m ≤ 1048576) : Jour w0 w s M jb most bad L m base k size rest lost :=
  ⟨h.sto.le_n hn hm, h.blk, h.lo, h.k1, h.sz, h.bz, h.ll⟩
set_option maxRecDepth 100000 in
theorem jmade (h : Jour w0 w s M jb most bad L n base k size rest lost) : Calls Tryz.prog 89 #[.pointer (some ⟨jb, 0, none⟩)] w fun e w' => e = .returned (.bool true) ∧ w' = w := by
  obtain ⟨⟨c0, c1, c2, c3, c4, c5⟩, f4, f5⟩ := h.blk.all6
  have hk : ¬ ((k : Int) = 0) := by have := h.k1; omega
  clear h
  go_enter Tryz.func89, Tryz.ntmps89
  go_wp2_with fail
  go_ret
  exact ⟨rfl, rfl⟩
/-- behind an act on the log's files -/
def Acted (w0 w : World) (s M jb : Nat) (most : Int) (n : Nat) (base : ByteArray) (k size : Nat) (rest : Bool) (lost : Nat) (x : Int × Nat × List SFile) (e : Ending) (w' : World) : Prop :=
  ∃ v L, e = .returned v ∧ ErrV w' x.1 v ∧ Jour w0 w' s M jb most x.2.1 L n base k size rest lost ∧ L.map SRep.f = x.2.2 ∧ Keeps (fun i => w0.heap.size ≤ i ∧ StR w i) w w'
set_option maxRecDepth 100000 in
set_option maxHeartbeats 1000000 in
theorem jturn (h : Jour w0 w s M jb most bad L n base k size rest lost) (hn : n ≤ 999000) : Calls Tryz.prog 148 #[.pointer (some ⟨jb, 0, none⟩)] w (Acted w0 w s M jb most (n + 18) base k size rest lost (turnedP base k bad (L.map SRep.f))) := by
  have H := Lib.hid h
  obtain ⟨R, hR⟩ : ∃ R, R = turnedP base k bad (L.map SRep.f) := ⟨_, rfl⟩
  rw [← hR]
  have HRR := Lib.hid hR
  clear hR
  obtain ⟨⟨c0, c1, c2, c3, c4, c5⟩, f4, f5⟩ := h.blk.all6
  obtain ⟨x, hx⟩ : ∃ x, x = syncP bad (L.map SRep.f) base := ⟨_, rfl⟩
  have hS := fun W (kk : Keeps (fun _ => False) w W) => ssync (h.sto.same kk) (by omega) base
  rw [← hx] at hS
  have HS := Lib.hid hS
  have HX := Lib.hid hx
  clear h hS hx c2 c3 c4 c5 f4 f5
  go_enter Tryz.func148, Tryz.ntmps148
  go_wp2_with fail
  go_region_held3 (fun w2 => w2.cell? ⟨jb, 0, none⟩ = some (.pointer (some ⟨s, 0, none⟩)) ∧ w2.cell? ⟨jb, 1, none⟩ = some (.string base))
    ((first | exact ⟨c0, c1⟩ | exact ⟨d0, d1⟩))
    ((go_at_call 32; refine (HS.out _ (by (repeat (first | (with_reducible assumption) | (with_reducible exact Keeps.refl _ _) | refine Keeps.drew ?_ | refine Keeps.drewN ?_ _ | refine Keeps.setCell ?_ (by simp) _ | refine Keeps.setRow ?_ (by simp) _ | refine Keeps.alloc ?_ _)))).mono ?_; rintro e w3 ⟨v, L3, rfl, hE, hS3, hl3, k3⟩; have k3 := k3.from_drew; have HJ3 := Lib.hid (H.out.move hS3 k3); have HE3 := Lib.hid hE; have HL3 := Lib.hid hl3; have HK3 := Lib.hid k3; obtain ⟨⟨d0, d1, d2, -, -, -⟩, -, -⟩ := HJ3.out.blk.all6; clear hS3 hl3 k3))
  have HKK := Lib.hid (show Keeps (fun i => w0.heap.size ≤ i ∧ StR w i) w w3 from HK3.out)
  clear k3 HK3 c0 c1
  by_cases hx0 : x.1 = 0
  · rw [hx0] at hE
    obtain rfl := hE.nil_
    have htd : R = turnP base (k - 1) x.2.1 (L3.map SRep.f) := by
      rw [HRR.out]
      unfold turnedP
      rw [← HX.out, if_neg (by simp [hx0]), HL3.out]
    have hT := fun W (kk : Keeps (fun _ => False) w3 W) => gturn_any (HJ3.out.sto.same kk) (by omega) base (k : Int) H.out.bz
    rw [heldP_is H.out.k1, ← htd] at hT
    have HT := Lib.hid hT
    obtain ⟨⟨-, -, d2, -, -, -⟩, -, -⟩ := HJ3.out.blk.all6
    clear hE hx0 htd hT
    go_wp2_with fail
    go_region_held3 (fun w2 => w2.cell? ⟨jb, 0, none⟩ = some (.pointer (some ⟨s, 0, none⟩)) ∧ w2.cell? ⟨jb, 1, none⟩ = some (.string base) ∧ w2.cell? ⟨jb, 2, none⟩ = some (.int .i64 k))
      ((first | exact ⟨d0, d1, d2⟩ | exact ⟨g0, g1, g2⟩))
      ((go_at_call 35; refine (HT.out _ (by (repeat (first | (with_reducible assumption) | (with_reducible exact Keeps.refl _ _) | refine Keeps.drew ?_ | refine Keeps.drewN ?_ _ | refine Keeps.setCell ?_ (by simp) _ | refine Keeps.setRow ?_ (by simp) _ | refine Keeps.alloc ?_ _)))).mono ?_; rintro e w4 ⟨v4, L4, rfl, hE4, hS4, hl4, k4⟩; have k4 := k4.from_drew; have HJ4 := Lib.hid (HJ3.out.move hS4 k4); have HE4 := Lib.hid hE4; have HL4 := Lib.hid hl4; have HK4 := Lib.hid k4; obtain ⟨⟨g0, g1, g2, -, -, -⟩, -, -⟩ := HJ4.out.blk.all6; clear hE4 hS4 hl4 k4))
    have HKE := Lib.hid (show Keeps (fun i => w0.heap.size ≤ i ∧ StR w3 i) w3 w4 from HK4.out)
    clear HK4 g0 g1 g2 d0 d1 d2
    go_wp2_with fail
    go_ret
    exact ⟨_, L4, rfl, HE4.out, HJ4.out, HL4.out, HKK.out.twice HKE.out⟩
  · obtain ⟨ty, x', rfl⟩ := hE.iface hx0
    have htd : R = x := by
      rw [HRR.out]
      unfold turnedP
      rw [← HX.out, if_pos hx0]
    have HRX := Lib.hid htd
    have HXX := Lib.hid hx0
    clear hE hx0 htd d0 d1
    go_wp2_with fail
    refine (wrap_err _ HE3.out HXX.out _).mono ?_
    rintro e w4 ⟨⟨v4, rfl, E4⟩, k4⟩
    have HE4 := Lib.hid E4
    have HK4 := Lib.hid k4
    clear E4 k4
    go_wp2_with fail
    go_ret
    rw [HRX.out]
    exact ⟨_, L3, rfl, HE4.out, (HJ3.out.same HK4.out).le_n (m := n + 18) (by omega) (by omega), HL3.out, HKK.out.thenSt HK4.out⟩
/-- how many bytes a name's file has -/
theorem ssize_sz (h : Sto w0 w s M most bad L n) {nm : ByteArray} (hn : nm.size ≤ maxLen) : Calls Tryz.prog 147 #[.pointer (some ⟨s, 0, none⟩), .string nm] w fun e w' => (∃ q : Int, e = .returned (.tuple #[.int .i64 (szG nm (L.map SRep.f) : Nat), .int .i64 q])) ∧ Keeps (fun _ => False) w w' := by
  unfold szG
  cases hg : getG SFile.name nm (L.map SRep.f) with
  | none => exact (ssize_none h hn hg).mono fun e w' hh => ⟨⟨0, hh.1⟩, hh.2⟩
  | some f => exact (ssize_some h hn hg).mono fun e w' hh => ⟨⟨_, hh.1⟩, hh.2⟩
theorem szG_le (h : Sto w0 w s M most bad L n) (nm : ByteArray) : szG nm (L.map SRep.f) ≤ 16777216 := by
  unfold szG
  cases hg : getG SFile.name nm (L.map SRep.f) with
  | none => exact Nat.zero_le _
  | some f =>
    obtain ⟨r, hr, e⟩ := List.mem_map.1 (getG_some hg).1
    have := (h.size hr).2.1
    rw [← e]
    exact this
set_option maxRecDepth 100000 in
set_option maxHeartbeats 1000000 in
theorem jput (h : Jour w0 w s M jb most bad L n base k size rest lost) (hn : n ≤ 999000) (b : ByteArray) (hb : b.size ≤ 1048576) (hbn : base.size ≤ 64) : Calls Tryz.prog 91 #[.pointer (some ⟨jb, 0, none⟩), .string b] w (Acted w0 w s M jb most (n + 19) base k size rest lost (putP most base k size bad (L.map SRep.f) b)) := by
  have H := Lib.hid h
  obtain ⟨R, hR⟩ : ∃ R, R = putP most base k size bad (L.map SRep.f) b := ⟨_, rfl⟩
  rw [← hR]
  obtain ⟨⟨c0, c1, c2, c3, c4, c5⟩, f4, f5⟩ := h.blk.all6
  have hbm : base.size ≤ maxLen := by unfold maxLen; omega
  have hS := fun W (kk : Keeps (fun _ => False) w W) => ssize_sz (h.sto.same kk) hbm
  have hz := szG_le h.sto base
  obtain ⟨hz1, hz2⟩ := h.sz
  obtain ⟨z, hzz⟩ : ∃ z, z = szG base (L.map SRep.f) := ⟨_, rfl⟩
  rw [← hzz] at hS hz
  unfold putP at hR
  rw [← hzz] at hR
  have HS := Lib.hid hS
  have HR := Lib.hid hR
  have HA := Lib.hid (fun W bad' L' n' (hj : Jour w0 W s M jb most bad' L' n' base k size rest lost) (hn' : n' < 1048576) => sappend hj.sto hn' base b (by omega))
  have HT := Lib.hid (fun W (hj : Jour w0 W s M jb most bad L n base k size rest lost) => jturn hj hn)
  have hw : IntKind.i64.wrap ((size : Int) - z) = (size : Int) - z := wrap_in (by omega) (by omega)
  clear h hS hzz hR c2 c4 c5 f4 f5
  by_cases hc : 0 < z ∧ size < z + b.size
  · obtain ⟨T, hT⟩ : ∃ T, T = turnedP base k bad (L.map SRep.f) := ⟨_, rfl⟩
    have hR2 := HR.out
    rw [if_pos hc, ← hT] at hR2
    rw [← hT] at HT
    have HR2 := Lib.hid hR2
    obtain ⟨hc1, hc2⟩ := hc
    have hd1 : (0 : Int) < z := by omega
    have hd2 : (size : Int) - z < b.size := by omega
    clear hR2 hT hc1 hc2 HR
    go_enter Tryz.func91, Tryz.ntmps91
    go_wp2_with fail
    go_region_held3 (fun w2 => w2.cell? ⟨jb, 0, none⟩ = some (.pointer (some ⟨s, 0, none⟩)) ∧ w2.cell? ⟨jb, 1, none⟩ = some (.string base))
      ((first | exact ⟨c0, c1⟩ | exact ⟨d0, d1⟩))
      ((go_at_call 147; refine (HS.out _ (by (repeat (first | (with_reducible assumption) | (with_reducible exact Keeps.refl _ _) | refine Keeps.drew ?_ | refine Keeps.drewN ?_ _ | refine Keeps.setCell ?_ (by simp) _ | refine Keeps.setRow ?_ (by simp) _ | refine Keeps.alloc ?_ _)))).mono ?_; rintro e w3 ⟨⟨q, rfl⟩, k3⟩; have k3 := k3.from_drew; have HJ3 := Lib.hid (H.out.same k3); have HK3 := Lib.hid k3; obtain ⟨⟨d0, d1, d2, d3, -, -⟩, -, -⟩ := HJ3.out.blk.all6; clear k3))
    clear c0 c1 c3
    go_wp2_with fail
    refine (HT.out _ HJ3.out).mono ?_
    rintro e w4 ⟨v4, L4, rfl, hE, hJ4, hl4, k4⟩
    have HJ4 := Lib.hid hJ4
    have HE4 := Lib.hid hE
    have HL4 := Lib.hid hl4
    have HK4 := Lib.hid (St.none_ HK3.out k4)
    clear hJ4 hl4 k4 d0 d1 d2 d3
    by_cases hx0 : T.1 = 0
    · rw [hx0] at hE
      obtain rfl := hE.nil_
      have hRA : R = appendP most T.2.1 (L4.map SRep.f) base b := by rw [HR2.out, if_neg (by simp [hx0]), HL4.out]
      have hA := fun W (kk : Keeps (fun _ => False) w4 W) => HA.out W _ _ _ (HJ4.out.same kk) (by omega)
      rw [← hRA] at hA
      have HA2 := Lib.hid hA
      obtain ⟨⟨d0, d1, -, -, -, -⟩, -, -⟩ := HJ4.out.blk.all6
      clear hA hRA hE hx0
      go_wp2_with fail
      go_region_held3 (fun w2 => w2.cell? ⟨jb, 0, none⟩ = some (.pointer (some ⟨s, 0, none⟩)) ∧ w2.cell? ⟨jb, 1, none⟩ = some (.string base))
        ((first | exact ⟨d0, d1⟩ | exact ⟨g0, g1⟩))
        ((go_at_call 29; refine (HA2.out _ (by (repeat (first | (with_reducible assumption) | (with_reducible exact Keeps.refl _ _) | refine Keeps.drew ?_ | refine Keeps.drewN ?_ _ | refine Keeps.setCell ?_ (by simp) _ | refine Keeps.setRow ?_ (by simp) _ | refine Keeps.alloc ?_ _)))).mono ?_; rintro e w5 ⟨v5, L5, rfl, hE5, hS5, hl5, k5⟩; have k5 := k5.from_drew; have HJ5 := Lib.hid (HJ4.out.move hS5 k5); have HE5 := Lib.hid hE5; have HL5 := Lib.hid hl5; have HK5 := Lib.hid k5; obtain ⟨⟨g0, g1, -, -, -, -⟩, -, -⟩ := HJ5.out.blk.all6; clear hE5 hS5 hl5 k5))
      have HKE := Lib.hid (show Keeps (fun i => w0.heap.size ≤ i ∧ StR w4 i) w4 w5 from HK5.out)
      clear HK5 g0 g1 d0 d1
      go_wp2_with fail
      go_ret
      exact ⟨_, L5, rfl, HE5.out, HJ5.out, HL5.out, HK4.out.twice HKE.out⟩
    · obtain ⟨ty, x', rfl⟩ := hE.iface hx0
      have hRA : R = T := by rw [HR2.out, if_pos hx0]
      have HRA := Lib.hid hRA
      clear hRA hE hx0
      go_wp2_with fail
      go_ret
      rw [HRA.out]
      exact ⟨_, L4, rfl, HE4.out, HJ4.out.le_n (m := n + 19) (by omega) (by omega), HL4.out, HK4.out⟩
  · have hR2 := HR.out
    rw [if_neg hc] at hR2
    have HR2 := Lib.hid hR2
    have hA := fun W (hj : Jour w0 W s M jb most bad L n base k size rest lost) => HA.out W _ _ _ hj (by omega)
    rw [← hR2] at hA
    have HA2 := Lib.hid hA
    clear hR2 hA HR HA
    rcases Nat.eq_zero_or_pos z with hz0 | hz0
    all_goals
      first
        | (have hd1 : ¬ (0 : Int) < z := by omega)
        | (have hd1 : (0 : Int) < z := by omega
           have hd2 : ¬ (size : Int) - z < b.size := by omega)
      clear hc hz0
      go_enter Tryz.func91, Tryz.ntmps91
      go_wp2_with fail
      go_region_held3 (fun w2 => w2.cell? ⟨jb, 0, none⟩ = some (.pointer (some ⟨s, 0, none⟩)) ∧ w2.cell? ⟨jb, 1, none⟩ = some (.string base))
        ((first | exact ⟨c0, c1⟩ | exact ⟨d0, d1⟩))
        ((go_at_call 147; refine (HS.out _ (by (repeat (first | (with_reducible assumption) | (with_reducible exact Keeps.refl _ _) | refine Keeps.drew ?_ | refine Keeps.drewN ?_ _ | refine Keeps.setCell ?_ (by simp) _ | refine Keeps.setRow ?_ (by simp) _ | refine Keeps.alloc ?_ _)))).mono ?_; rintro e w3 ⟨⟨q, rfl⟩, k3⟩; have k3 := k3.from_drew; have HJ3 := Lib.hid (H.out.same k3); have HK3 := Lib.hid k3; obtain ⟨⟨d0, d1, d2, d3, -, -⟩, -, -⟩ := HJ3.out.blk.all6; clear k3))
      clear c0 c1 c3
      go_wp2_with fail
      go_region_held3 (fun w2 => w2.cell? ⟨jb, 0, none⟩ = some (.pointer (some ⟨s, 0, none⟩)) ∧ w2.cell? ⟨jb, 1, none⟩ = some (.string base))
        ((first | exact ⟨d0, d1⟩ | exact ⟨g0, g1⟩))
        ((go_at_call 29; refine (HA2.out _ (HJ3.out.same (by (repeat (first | (with_reducible assumption) | (with_reducible exact Keeps.refl _ _) | refine Keeps.drew ?_ | refine Keeps.drewN ?_ _ | refine Keeps.setCell ?_ (by simp) _ | refine Keeps.setRow ?_ (by simp) _ | refine Keeps.alloc ?_ _))))).mono ?_; rintro e w5 ⟨v5, L5, rfl, hE5, hS5, hl5, k5⟩; have k5 := k5.from_drew; have HJ5 := Lib.hid (HJ3.out.move hS5 k5); have HE5 := Lib.hid hE5; have HL5 := Lib.hid hl5; have HK5 := Lib.hid k5; obtain ⟨⟨g0, g1, -, -, -, -⟩, -, -⟩ := HJ5.out.blk.all6; clear hE5 hS5 hl5 k5))
      have HKE := Lib.hid (show Keeps (fun i => w0.heap.size ≤ i ∧ StR w3 i) w3 w5 from HK5.out)
      clear HK5 g0 g1 d0 d1 d2 d3
      go_wp2_with fail
      go_ret
      exact ⟨_, L5, rfl, HE5.out, HJ5.out.le_n (m := n + 19) (by omega) (by omega), HL5.out, St.none_ HK3.out HKE.out⟩
end
end Go.Proofs.YtdbnalocmjkncaaGreatDoor
