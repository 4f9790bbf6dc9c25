/-
  A console's settings, read out of an argument: ten cells. No program in sight.
-/
import Derived.Test.YtkmpdobojgiegaaGreatDoorQGround1
import Derived.Test.YtkmpdobojgiegaaGreatDoorQGround2
namespace Go.Proofs.YtkmpdobojgiegaaGreatDoor
open Go.RowKit Go.ChangeShapes Go.WideShapes Go.Deep

def IntC (k : Int) : Prop := -9223372036854775808 ≤ k ∧ k ≤ 9223372036854775807
/-- a console's settings that an argument holds -/
structure ConOk (x : Con) : Prop where
  name : x.name.size ≤ maxLen
  init : x.init.size ≤ maxLen
  kind : IntC x.kind
  lines : IntC x.lines
  bytes : IntC x.bytes
  gens : IntC x.gens
  size : IntC x.size
  base : IntC x.base
  cap : IntC x.cap
  jitter : IntC x.jitter
section
variable {H : Type} {enc : TypeId × Value → H} {P : Program} {w : World} {base : Nat} {spare : Nat → Bool} {held : Bool}
theorem con_of {e : TypeId} {cs : List Value} {fuel : Nat} {y : DataW H × List MemPlace} {f0 f1 f2 f3 f4 f5 f6 f7 f8 f9 : Field} (he : P.underlying e = some (.struct #[f0, f1, f2, f3, f4, f5, f6, f7, f8, f9])) (hone : oneCellFields P #[f0, f1, f2, f3, f4, f5, f6, f7, f8, f9] = true)
    (hc : P.cellsOf e = 10) (h0 : P.underlying f0.type = some .string) (h1 : P.underlying f1.type = some (.int .i64)) (h2 : P.underlying f2.type = some (.int .i64)) (h3 : P.underlying f3.type = some (.int .i64)) (h4 : P.underlying f4.type = some (.int .i64)) (h5 : P.underlying f5.type = some (.int .i64)) (h6 : P.underlying f6.type = some (.int .i64)) (h7 : P.underlying f7.type = some (.int .i64)) (h8 : P.underlying f8.type = some (.int .i64)) (h9 : P.underlying f9.type = some .string)
    (hd : DataW.trod enc P w base spare held fuel e cs = some y) : ∃ x : Con, cs = conR x ∧ ConOk x := by
  obtain ⟨xs, k, _, _, hlen, hxl, hf⟩ := DataW.trod_struct he hd
  have hxl : xs.length = 10 := hxl
  rw [hc] at hlen
  match cs, hlen with
  | [v0, v1, v2, v3, v4, v5, v6, v7, v8, v9], _ =>
    obtain ⟨o0, k0⟩ := hone_of hone 0 f0 rfl
    obtain ⟨o1, k1⟩ := hone_of hone 1 f1 rfl
    obtain ⟨o2, k2⟩ := hone_of hone 2 f2 rfl
    obtain ⟨o3, k3⟩ := hone_of hone 3 f3 rfl
    obtain ⟨o4, k4⟩ := hone_of hone 4 f4 rfl
    obtain ⟨o5, k5⟩ := hone_of hone 5 f5 rfl
    obtain ⟨o6, k6⟩ := hone_of hone 6 f6 rfl
    obtain ⟨o7, k7⟩ := hone_of hone 7 f7 rfl
    obtain ⟨o8, k8⟩ := hone_of hone 8 f8 rfl
    obtain ⟨o9, k9⟩ := hone_of hone 9 f9 rfl
    have e0 := hf 0 f0 rfl
    have e1 := hf 1 f1 rfl
    have e2 := hf 2 f2 rfl
    have e3 := hf 3 f3 rfl
    have e4 := hf 4 f4 rfl
    have e5 := hf 5 f5 rfl
    have e6 := hf 6 f6 rfl
    have e7 := hf 7 f7 rfl
    have e8 := hf 8 f8 rfl
    have e9 := hf 9 f9 rfl
    rw [o0, k0] at e0
    rw [o1, k1] at e1
    rw [o2, k2] at e2
    rw [o3, k3] at e3
    rw [o4, k4] at e4
    rw [o5, k5] at e5
    rw [o6, k6] at e6
    rw [o7, k7] at e7
    rw [o8, k8] at e8
    rw [o9, k9] at e9
    simp only [List.drop_zero, List.drop_succ_cons, List.take_succ_cons, List.take_zero] at e0 e1 e2 e3 e4 e5 e6 e7 e8 e9
    rw [List.getElem?_eq_getElem (by omega)] at e0 e1 e2 e3 e4 e5 e6 e7 e8 e9
    obtain ⟨n0, hv0, _, w0⟩ := DataW.trod_string h0 e0
    obtain ⟨n1, hv1, _, w1⟩ := DataW.trod_int h1 e1
    obtain ⟨n2, hv2, _, w2⟩ := DataW.trod_int h2 e2
    obtain ⟨n3, hv3, _, w3⟩ := DataW.trod_int h3 e3
    obtain ⟨n4, hv4, _, w4⟩ := DataW.trod_int h4 e4
    obtain ⟨n5, hv5, _, w5⟩ := DataW.trod_int h5 e5
    obtain ⟨n6, hv6, _, w6⟩ := DataW.trod_int h6 e6
    obtain ⟨n7, hv7, _, w7⟩ := DataW.trod_int h7 e7
    obtain ⟨n8, hv8, _, w8⟩ := DataW.trod_int h8 e8
    obtain ⟨n9, hv9, _, w9⟩ := DataW.trod_string h9 e9
    have b1 : IntC n1 := by unfold IntC; simpa [Lit.wf, IntKind.min, IntKind.max, IntKind.signed, IntKind.bits] using w1
    have b2 : IntC n2 := by unfold IntC; simpa [Lit.wf, IntKind.min, IntKind.max, IntKind.signed, IntKind.bits] using w2
    have b3 : IntC n3 := by unfold IntC; simpa [Lit.wf, IntKind.min, IntKind.max, IntKind.signed, IntKind.bits] using w3
    have b4 : IntC n4 := by unfold IntC; simpa [Lit.wf, IntKind.min, IntKind.max, IntKind.signed, IntKind.bits] using w4
    have b5 : IntC n5 := by unfold IntC; simpa [Lit.wf, IntKind.min, IntKind.max, IntKind.signed, IntKind.bits] using w5
    have b6 : IntC n6 := by unfold IntC; simpa [Lit.wf, IntKind.min, IntKind.max, IntKind.signed, IntKind.bits] using w6
    have b7 : IntC n7 := by unfold IntC; simpa [Lit.wf, IntKind.min, IntKind.max, IntKind.signed, IntKind.bits] using w7
    have b8 : IntC n8 := by unfold IntC; simpa [Lit.wf, IntKind.min, IntKind.max, IntKind.signed, IntKind.bits] using w8
    injection hv0 with hv0
    injection hv1 with hv1
    injection hv2 with hv2
    injection hv3 with hv3
    injection hv4 with hv4
    injection hv5 with hv5
    injection hv6 with hv6
    injection hv7 with hv7
    injection hv8 with hv8
    injection hv9 with hv9
    subst hv0 hv1 hv2 hv3 hv4 hv5 hv6 hv7 hv8 hv9
    exact ⟨⟨n0, n1, n2, n3, n4, n5, n6, n7, n8, n9⟩, rfl, ⟨w0, w9, b1, b2, b3, b4, b5, b6, b7, b8⟩⟩
theorem conV_of {e : TypeId} {v : Value} {d : DataW H} {ps : List MemPlace} {r : Reach} {f0 f1 f2 f3 f4 f5 f6 f7 f8 f9 : Field} (he : P.underlying e = some (.struct #[f0, f1, f2, f3, f4, f5, f6, f7, f8, f9])) (hone : oneCellFields P #[f0, f1, f2, f3, f4, f5, f6, f7, f8, f9] = true)
    (hc : P.cellsOf e = 10) (h0 : P.underlying f0.type = some .string) (h1 : P.underlying f1.type = some (.int .i64)) (h2 : P.underlying f2.type = some (.int .i64)) (h3 : P.underlying f3.type = some (.int .i64)) (h4 : P.underlying f4.type = some (.int .i64)) (h5 : P.underlying f5.type = some (.int .i64)) (h6 : P.underlying f6.type = some (.int .i64)) (h7 : P.underlying f7.type = some (.int .i64)) (h8 : P.underlying f8.type = some (.int .i64)) (h9 : P.underlying f9.type = some .string)
    (hok : Value.okWide P w r base e v) (h : DataW.Trod enc P w 0 spare held e v d ps) : ∃ x : Con, v = .agg (conR x).toArray ∧ ConOk x := by
  obtain ⟨cs, rfl, _⟩ := okWide_struct he hok
  obtain ⟨fuel, hf⟩ := h
  obtain ⟨x, hx, hg⟩ := con_of (cs := cs.toList) he hone hc h0 h1 h2 h3 h4 h5 h6 h7 h8 h9 hf
  refine ⟨x, ?_, hg⟩
  congr 1
  exact Array.ext' (by rw [hx])
end
end Go.Proofs.YtkmpdobojgiegaaGreatDoor
