/-
  journal: Reopen, New; law22's fine.
-/
import Derived.Test.YtdbnalocmjkncaaGreatQJourB
import Derived.Test.YtdbnalocmjkncaaGreatQGround2
namespace Go.Proofs.YtdbnalocmjkncaaGreat
open Go.RowKit Go.Maps
variable [Res]

/-- the item that tells how many were lost -/
def gapI (now : Int) (lost : Nat) : Itm := ⟨3, now, str (dec lost)⟩
omit [Res] in
theorem gapI_ok {now : Int} {lost : Nat} (h : 0 ≤ now ∧ now ≤ 1099511627776) (hl : lost ≤ 1048576) : (gapI now lost).ok := by
  have := dec_le (n := (lost : Int)) (by omega) (by omega)
  exact ⟨⟨by show (1 : Int) ≤ 3; omega, by show (3 : Int) ≤ 15; omega⟩, h, by show (str (dec lost)).size ≤ 4096; rw [str_size]; omega⟩
section
variable {w0 w w' : World} {s M jb bad n k size lost : Nat} {most : Int} {L : List SRep} {base : ByteArray} {rest : Bool}
/-- behind Reopen -/
def Opened (w0 w : World) (s M jb : Nat) (most : Int) (bad : Nat) (l : List SFile) (n : Nat) (base : ByteArray) (k size : Nat) (rest : Bool) (lost : Nat) (R : Int × Nat × List SFile) (e : Ending) (w' : World) : Prop :=
  (∃ L', e = .returned (.bool true) ∧ rest = true ∧ 0 < lost ∧ R.1 = 0 ∧ Jour w0 w' s M jb most R.2.1 L' n base k size false 0 ∧ L'.map SRep.f = R.2.2 ∧ Keeps (fun i => w0.heap.size ≤ i ∧ JT w i) w w') ∨
  (∃ L', e = .returned (.bool false) ∧ rest = true ∧ 0 < lost ∧ R.1 ≠ 0 ∧ Jour w0 w' s M jb most R.2.1 L' n base k size true lost ∧ L'.map SRep.f = R.2.2 ∧ Keeps (fun i => w0.heap.size ≤ i ∧ JT w i) w w') ∨
  (∃ L', e = .returned (.bool true) ∧ ¬ (rest = true ∧ 0 < lost) ∧ Jour w0 w' s M jb most bad L' n base k size false 0 ∧ L'.map SRep.f = l ∧ Keeps (fun i => w0.heap.size ≤ i ∧ JT w i) w w')
theorem jreopen_none (h : Jour w0 w s M jb most bad L n base k size rest lost) (hn : n ≤ 999000) (now : Int) (hc : ¬ (rest = true ∧ 0 < lost)) (R : Int × Nat × List SFile) : Calls Tryz.prog 49 #[.pointer (some ⟨jb, 0, none⟩), .int .i64 now] w (Opened w0 w s M jb most bad (L.map SRep.f) (n + 19) base k size rest lost R) := by
  have H := Lib.hid h
  have HM := Lib.hid (jmade h)
  have HC := Lib.hid hc
  obtain ⟨⟨-, -, -, -, c4, c5⟩, f4, f5⟩ := h.blk.all6
  clear h
  cases rest with
  | false =>
    clear hc
    go_enter Tryz.func49, Tryz.ntmps49
    go_wp2_with fail
    refine HM.out.mono ?_
    rintro e w2 ⟨rfl, hw⟩
    obtain rfl : w = w2 := hw.symm
    go_wp2_with fail
    go_ret
    exact .inr (.inr ⟨L, rfl, HC.out, (H.out.le_n (m := n + 19) (by omega) (by omega)).put_ (((Keeps.refl _ _).set1 jb 4 _).setCell (fun _ => rfl) _) ((H.out.blk.set_ 4 (.bool false)).set_ 5 (.int .i64 0)) (by omega), rfl, (Keeps.refl (fun _ => False) w).noneJ.thenB H.out.blk H.out.lo (((Keeps.refl _ _).set1 jb 4 _).setCell (fun _ => rfl) _)⟩)
  | true =>
    obtain rfl : lost = 0 := by
      rcases Nat.eq_zero_or_pos lost with h0 | h0
      · exact h0
      · exact absurd ⟨rfl, h0⟩ hc
    clear hc
    go_enter Tryz.func49, Tryz.ntmps49
    go_wp2_with fail
    refine HM.out.mono ?_
    rintro e w2 ⟨rfl, hw⟩
    obtain rfl : w = w2 := hw.symm
    go_wp2_with fail
    go_ret
    exact .inr (.inr ⟨L, rfl, fun hh => absurd hh.2 (by omega), (H.out.le_n (m := n + 19) (by omega) (by omega)).put_ (((Keeps.refl _ _).set1 jb 4 _).setCell (fun _ => rfl) _) ((H.out.blk.set_ 4 (.bool false)).set_ 5 (.int .i64 0)) (by omega), rfl, (Keeps.refl (fun _ => False) w).noneJ.thenB H.out.blk H.out.lo (((Keeps.refl _ _).set1 jb 4 _).setCell (fun _ => rfl) _)⟩)
set_option maxRecDepth 100000 in
set_option maxHeartbeats 1000000 in
theorem jreopen (h : Jour w0 w s M jb most bad L n base k size rest lost) (hn : n ≤ 999000) (hbn : base.size ≤ 64) (now : Int) (hnow : 0 ≤ now ∧ now ≤ 1099511627776) : Calls Tryz.prog 49 #[.pointer (some ⟨jb, 0, none⟩), .int .i64 now] w (Opened w0 w s M jb most bad (L.map SRep.f) (n + 19) base k size rest lost (putP most base k size bad (L.map SRep.f) (str (recP (gapI now lost))))) := by
  by_cases hc : rest = true ∧ 0 < lost
  · obtain ⟨rfl, hlp⟩ := hc
    have H := Lib.hid h
    obtain ⟨R, hR⟩ : ∃ R, R = putP most base k size bad (L.map SRep.f) (str (recP (gapI now lost))) := ⟨_, rfl⟩
    rw [← hR]
    have hx := gapI_ok hnow h.ll
    have hrl := recP_len (gapI now lost)
    have hxb := hx.2.2
    have hrp := fun W => rput_ok W (gapI now lost) hx
    have hjp := fun W (hj : Jour w0 W s M jb most bad L n base k size true lost) => jput hj hn (str (recP (gapI now lost))) (by rw [str_size]; omega) hbn
    rw [← hR] at hjp
    obtain ⟨bs, hbs⟩ : ∃ bs, bs = str (recP (gapI now lost)) := ⟨_, rfl⟩
    rw [← hbs] at hrp hjp
    have hdp := fun W => put_any W (lost : Int) (by omega) (by have := h.ll; omega)
    unfold itmV gapI at hrp
    simp only at hrp
    obtain ⟨ds, hds⟩ : ∃ ds, ds = str (dec lost) := ⟨_, rfl⟩
    rw [← hds] at hrp hdp
    have HRP := Lib.hid hrp
    have HJP := Lib.hid hjp
    have HDP := Lib.hid hdp
    have HM := Lib.hid (jmade h)
    obtain ⟨⟨-, -, -, -, c4, c5⟩, f4, f5⟩ := h.blk.all6
    have hlp2 : (0 : Int) < lost := by omega
    clear h hR hx hrl hxb hrp hjp hbs hdp hds
    go_enter Tryz.func49, Tryz.ntmps49
    go_wp2_with fail
    refine HM.out.mono ?_
    rintro e w2 ⟨rfl, hw⟩
    obtain rfl : w = w2 := hw.symm
    go_wp2_with fail
    refine (HDP.out _).mono ?_
    rintro e w3 ⟨rfl, k3⟩
    have HK3 := Lib.hid k3
    clear k3
    go_wp2_with fail
    refine (HRP.out _).mono ?_
    rintro e w4 ⟨rfl, k4⟩
    have HK4 := Lib.hid (HK3.out.trans k4)
    clear k4
    go_wp2_with fail
    refine (HJP.out _ (H.out.same HK4.out)).mono ?_
    rintro e w5 ⟨v5, L5, rfl, hE, hJ5, hl5, k5⟩
    have HJ5 := Lib.hid hJ5
    have HL5 := Lib.hid hl5
    have HK5 := Lib.hid (St.none_ HK4.out k5)
    clear c4 c5 f4 f5 hl5 k5 hJ5
    obtain ⟨⟨-, -, -, -, d4, d5⟩, f4, f5⟩ := HJ5.out.blk.all6
    by_cases hR0 : R.1 = 0
    · rw [hR0] at hE
      obtain rfl := hE.nil_
      have HR0 := Lib.hid hR0
      clear hE hR0
      go_wp2_with fail
      go_ret
      exact .inl ⟨L5, rfl, rfl, hlp, HR0.out, HJ5.out.put_ (((Keeps.refl _ _).set1 jb 4 _).setCell (fun _ => rfl) _) ((HJ5.out.blk.set_ 4 (.bool false)).set_ 5 (.int .i64 0)) (by omega), HL5.out, HK5.out.st.thenB H.out.blk H.out.lo (((Keeps.refl _ _).set1 jb 4 _).setCell (fun _ => rfl) _)⟩
    · obtain ⟨ty, x', rfl⟩ := hE.iface hR0
      have HR0 := Lib.hid hR0
      clear hE hR0
      go_wp2_with fail
      go_ret
      exact .inr (.inl ⟨L5, rfl, rfl, hlp, HR0.out, HJ5.out, HL5.out, HK5.out.st⟩)
  · exact jreopen_none h hn now hc _
set_option maxRecDepth 100000 in
theorem jnew (h : Sto w0 w s M most bad L n) (base : ByteArray) (hb : base.size ≤ 1048576) (k size : Nat) (hk : 1 ≤ k ∧ k ≤ 16) (hs : 64 ≤ size ∧ size ≤ 1048576) :
    Calls Tryz.prog 22 #[.pointer (some ⟨s, 0, none⟩), .string base, .int .i64 k, .int .i64 size] w fun e w' => (∃ jb, e = .returned (.tuple #[.pointer (some ⟨jb, 0, none⟩), .int .i64 0]) ∧ Jour w0 w' s M jb most bad L n base k size false 0) ∧ Keeps (fun _ => False) w w' := by
  have H := Lib.hid h
  obtain ⟨hk1, hk2⟩ := hk
  obtain ⟨hs1, hs2⟩ := hs
  have a1 : ¬ (k : Int) < 1 := by omega
  have a2 : ¬ (16 : Int) < k := by omega
  have a3 : ¬ (size : Int) < 64 := by omega
  have a4 : ¬ (1048576 : Int) < size := by omega
  clear h
  go_enter Tryz.func22, Tryz.ntmps22
  go_wp2_with fail
  go_ret2
  refine ⟨⟨w.heap.size, rfl, H.out.same (by (repeat (first | (with_reducible assumption) | (with_reducible exact Keeps.refl _ _) | refine Keeps.drew ?_ | refine Keeps.drewN ?_ _ | refine Keeps.setCell ?_ (by simp) _ | refine Keeps.setRow ?_ (by simp) _ | refine Keeps.alloc ?_ _))), Blk.new w _ _, H.out.keeps.size, ⟨hk1, hk2⟩, ⟨hs1, hs2⟩, hb, by omega⟩, by (repeat (first | (with_reducible assumption) | (with_reducible exact Keeps.refl _ _) | refine Keeps.drew ?_ | refine Keeps.drewN ?_ _ | refine Keeps.setCell ?_ (by simp) _ | refine Keeps.setRow ?_ (by simp) _ | refine Keeps.alloc ?_ _))⟩
omit [Res] in
set_option maxRecDepth 100000 in
theorem jnew_range (w : World) (s : Nat) (base : ByteArray) (size : Nat) :
    Calls Tryz.prog 22 #[.pointer (some ⟨s, 0, none⟩), .string base, .int .i64 0, .int .i64 size] w fun e w' => e = .returned (.tuple #[.pointer none, .int .i64 2]) ∧ w' = w := by
  go_enter Tryz.func22, Tryz.ntmps22
  go_wp2_with fail
  go_ret2
  exact ⟨rfl, rfl⟩
omit [Res] in
set_option maxRecDepth 100000 in
theorem jnew_nil (w : World) (base : ByteArray) (k size : Int) :
    Calls Tryz.prog 22 #[.pointer none, .string base, .int .i64 k, .int .i64 size] w fun e w' => e = .returned (.tuple #[.pointer none, .int .i64 14]) ∧ w' = w := by
  go_enter Tryz.func22, Tryz.ntmps22
  go_wp2_with fail
  go_ret2
  exact ⟨rfl, rfl⟩
end
end Go.Proofs.YtdbnalocmjkncaaGreat
