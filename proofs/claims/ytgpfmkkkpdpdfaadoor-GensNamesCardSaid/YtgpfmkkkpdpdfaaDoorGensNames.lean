/-
  GensNames: the name of any generation is what the chapter says; no two generations of one name have one.
-/
import Derived.Test.YtgpfmkkkpdpdfaaDoorWorks21
namespace Go.Proofs.YtgpfmkkkpdpdfaaDoor
open Go.RowKit Go.Maps

theorem nm_ne21 {a b : ByteArray} (h : a ≠ b) : (a.toList == b.toList) = false := toList_ne10 h
set_option maxRecDepth 100000 in
set_option maxHeartbeats 1000000 in
theorem gensNames_walk (w : World) (base : ByteArray) (i k : Int) (_hb : base.size ≤ maxLen) (hi : Lit.wf (.int .i64 i) = true) (hk : Lit.wf (.int .i64 k) = true) (he : Ety w) :
    Calls Tryd.prog 3 #[.string base, .int .i64 i, .int .i64 k] w fun e w' => e = .returned (.bool true) ∧ Keeps (fun _ => False) w w' := by
  have hi : -9223372036854775808 ≤ i ∧ i ≤ 9223372036854775807 := by simpa [Lit.wf, IntKind.min, IntKind.max, IntKind.signed, IntKind.bits] using hi
  have hk : -9223372036854775808 ≤ k ∧ k ≤ 9223372036854775807 := by simpa [Lit.wf, IntKind.min, IntKind.max, IntKind.signed, IntKind.bits] using hk
  have HE := Lib.hid he
  clear he
  by_cases h60 : 60 < base.size
  · go_enter Tryd.func3, Tryd.ntmps3
    go_wp2_with fail
    refine (works21 _ HE.out).mono ?_
    rintro e w' ⟨rfl, k⟩
    have HK := Lib.hid k
    clear k
    go_wp2_with fail
    go_ret
    exact ⟨rfl, HK.out⟩
  have hb : base.size ≤ 1048576 := by omega
  have H1 := Lib.hid (fun W => gname_any W base i hb hi.1 hi.2)
  have H2 := Lib.hid (fun W => gname_any W base k hb hk.1 hk.2)
  have H3 := Lib.hid (fun W => rgname_any W base i hb hi.1 hi.2)
  have hinj := genName_inj (base := base) (i := i) (k := k)
  obtain ⟨a, ha⟩ : ∃ a, a = genName base i := ⟨_, rfl⟩
  obtain ⟨b, hbb⟩ : ∃ b, b = genName base k := ⟨_, rfl⟩
  rw [← ha] at H1 H3 hinj
  rw [← hbb] at H2 hinj
  have haa : (a.toList == a.toList) = true := beq_self_eq_true _
  clear ha hbb hi hk
  obtain ⟨q, hq⟩ : ∃ q : Bool, (a.toList == b.toList) = q ∧ ((max 0 i : Int) == max 0 k) = q := by
    by_cases hm : max 0 i = max 0 k
    · refine ⟨true, ?_, by rw [beq_iff_eq]; exact hm⟩
      rw [hinj.2 hm]
      exact beq_self_eq_true _
    · exact ⟨false, nm_ne21 (fun e => hm (hinj.1 e)), by rw [beq_eq_false_iff_ne]; exact hm⟩
  obtain ⟨q1, q2⟩ := hq
  clear hinj
  go_enter Tryd.func3, Tryd.ntmps3
  go_wp2_with fail
  refine (H1.out _).mono ?_
  rintro e w1 ⟨rfl, k1⟩
  have HK1 := Lib.hid k1
  clear k1
  go_wp2_with fail
  refine (H2.out _).mono ?_
  rintro e w2 ⟨rfl, k2⟩
  have HK2 := Lib.hid (HK1.out.trans k2)
  clear k2
  go_wp2_with fail
  refine (H3.out _).mono ?_
  rintro e w3 ⟨rfl, k3⟩
  have HK3 := Lib.hid (HK2.out.trans k3)
  clear k3
  go_wp2_with fail
  refine (works21 _ (ety_keeps HE.out HK3.out (fun _ _ => id))).mono ?_
  rintro e w' ⟨rfl, k⟩
  have HK := Lib.hid (HK3.out.trans k)
  clear k
  go_wp2_with fail
  go_ret
  exact ⟨rfl, HK.out⟩
end Go.Proofs.YtgpfmkkkpdpdfaaDoor
